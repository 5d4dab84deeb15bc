/-
  Texts of this claim, merged: FoldE Pairs PairsI PairsS Runs WdU CtM LtC Law.
-/
import Derived.Test.YtgdbpkpaacbhhaaP6
import Derived.ProofKit
import Derived.OpenShut
import Derived.JoinedCond
import Derived.Carry
import Derived.Deep.Slices
import Derived.Deep.Fields
import Derived.ChangeSame
import Derived.ChangeSlices
import Derived.SliceStrings
import Derived.Lib.SmallJoins


/-
  impl.folded at [2]int: what it makes of a grammar, by the contracts of the two functions that it is handed.
-/
namespace Go.Proofs.Ytgdbpkpaacbhhaa
open Go.RowKit

structure Ed where
  f : Int
  l : Int
  deriving Inhabited, DecidableEq
def Ed.nil : Ed := ⟨0, 0⟩
def encEd (y : Ed) : List Value := [.int .i64 y.f, .int .i64 y.l]
theorem lenEd (y : Ed) : (encEd y).length = 2 := rfl

end Go.Proofs.Ytgdbpkpaacbhhaa


/-
  How often letters come behind letters: the table, and what makes it.
-/
namespace Go.Proofs.Ytgdbpkpaacbhhaa
open Go.RowKit

/-- one fold told by another one -/
theorem full_map {α β : Type} (d : α) (F : Nat → α) (G : α → α → Fac → α) (d' : β) (F' : Nat → β) (G' : β → β → Fac → β) (h : α → β) {rs : List Fac} (hwf : WF rs) (hF : ∀ l, h (F l) = F' l) (hG : ∀ a b r, h (G a b r) = G' (h a) (h b) r) :
    ∀ k, k < rs.length → h ((full d F G rs).getD k d) = (full d' F' G' rs).getD k d' := by
  intro k
  induction k using Nat.strongRecOn with
  | ind k ih =>
    intro hk
    have gx : rs[k]? = some (rs[k]'(by omega)) := List.getElem?_eq_getElem _
    rcases hwf k _ gx with ⟨h0, ha0, ha1, hb0, hb1⟩ | ⟨c, hc, hl, _⟩
    · rw [full_pair d F G hwf gx h0, full_pair d' F' G' hwf gx h0, hG, ih _ (by omega) (by omega), ih _ (by omega) (by omega)]
    · have h0 : (rs[k]'(by omega)).l.size ≠ 0 := by rw [hl]; show (1 : Nat) ≠ 0; omega
      rw [full_let d F G gx h0, full_let d' F' G' gx h0, hF]
def edF (l : Nat) : Int := (l : Int)
def edGf (a _ : Int) (_ : Fac) : Int := a
def edGl (_ b : Int) (_ : Fac) : Int := b
/-- the number of the first letter, of the last letter -/
abbrev edf (rs : List Fac) : List Int := full 0 edF edGf rs
abbrev edl (rs : List Fac) : List Int := full 0 edF edGl rs
theorem ed_b {G : Int → Int → Fac → Int} (hG : ∀ a b r, G a b r = a ∨ G a b r = b) {rs : List Fac} (hwf : WF rs) {k : Nat} (hk : k < rs.length) : 0 ≤ (full 0 edF G rs).getD k 0 ∧ (full 0 edF G rs).getD k 0 < 4 := by
  refine full_ind 0 edF G hwf (fun _ x => 0 ≤ x ∧ x < 4) (fun k r hr h => ?_) (fun k r a b hr h0 h1 h2 h3 h4 ha hb => ?_) k hk
  · have := letN_lt h
    show 0 ≤ ((letN r.l : Nat) : Int) ∧ ((letN r.l : Nat) : Int) < 4
    omega
  · rcases hG a b r with h | h
    · show 0 ≤ G a b r ∧ G a b r < 4
      rw [h]; exact ha
    · show 0 ≤ G a b r ∧ G a b r < 4
      rw [h]; exact hb
theorem edf_b {rs : List Fac} (hwf : WF rs) {k : Nat} (hk : k < rs.length) : 0 ≤ (edf rs).getD k 0 ∧ (edf rs).getD k 0 < 4 := ed_b (fun _ _ _ => .inl rfl) hwf hk
theorem edl_b {rs : List Fac} (hwf : WF rs) {k : Nat} (hk : k < rs.length) : 0 ≤ (edl rs).getD k 0 ∧ (edl rs).getD k 0 < 4 := ed_b (fun _ _ _ => .inr rfl) hwf hk

def Q4.plus (q : Q4) (l : Nat) (v : Int) : Q4 := match l with
  | 0 => ⟨q.a + v, q.b, q.c, q.d⟩
  | 1 => ⟨q.a, q.b + v, q.c, q.d⟩
  | 2 => ⟨q.a, q.b, q.c + v, q.d⟩
  | _ => ⟨q.a, q.b, q.c, q.d + v⟩
def Q4.sum (q : Q4) : Int := q.a + q.b + q.c + q.d
theorem Q4.plus_sum (q : Q4) (l : Nat) (v : Int) : (q.plus l v).sum = q.sum + v := by
  match l with
  | 0 => simp [Q4.plus, Q4.sum]; omega
  | 1 => simp [Q4.plus, Q4.sum]; omega
  | 2 => simp [Q4.plus, Q4.sum]; omega
  | _ + 3 => simp [Q4.plus, Q4.sum]; omega
theorem Q4.plus_set (q : Q4) {l : Nat} (h : l < 4) (v : Int) : ((encQ4 q).toArray).setIfInBounds l (.int .i64 (q.at_ l + v)) = (encQ4 (q.plus l v)).toArray := by
  match l, h with
  | 0, _ => rfl
  | 1, _ => rfl
  | 2, _ => rfl
  | 3, _ => rfl
def Q4.bd (q : Q4) (m : Int) : Prop := ∀ j, 0 ≤ q.at_ j ∧ q.at_ j ≤ m
theorem Q4.plus_bd {q : Q4} {m v : Int} (h : q.bd m) (l : Nat) (h0 : 0 ≤ v) : (q.plus l v).bd (m + v) := by
  intro j
  have h1 : 0 ≤ q.a ∧ q.a ≤ m := h 0
  have h2 : 0 ≤ q.b ∧ q.b ≤ m := h 1
  have h3 : 0 ≤ q.c ∧ q.c ≤ m := h 2
  have h4 : 0 ≤ q.d ∧ q.d ≤ m := h 3
  match l with
  | 0 => match j with
    | 0 => show 0 ≤ q.a + v ∧ q.a + v ≤ m + v; omega
    | 1 => show 0 ≤ q.b ∧ q.b ≤ m + v; omega
    | 2 => show 0 ≤ q.c ∧ q.c ≤ m + v; omega
    | _ + 3 => show 0 ≤ q.d ∧ q.d ≤ m + v; omega
  | 1 => match j with
    | 0 => show 0 ≤ q.a ∧ q.a ≤ m + v; omega
    | 1 => show 0 ≤ q.b + v ∧ q.b + v ≤ m + v; omega
    | 2 => show 0 ≤ q.c ∧ q.c ≤ m + v; omega
    | _ + 3 => show 0 ≤ q.d ∧ q.d ≤ m + v; omega
  | 2 => match j with
    | 0 => show 0 ≤ q.a ∧ q.a ≤ m + v; omega
    | 1 => show 0 ≤ q.b ∧ q.b ≤ m + v; omega
    | 2 => show 0 ≤ q.c + v ∧ q.c + v ≤ m + v; omega
    | _ + 3 => show 0 ≤ q.d ∧ q.d ≤ m + v; omega
  | _ + 3 => match j with
    | 0 => show 0 ≤ q.a ∧ q.a ≤ m + v; omega
    | 1 => show 0 ≤ q.b ∧ q.b ≤ m + v; omega
    | 2 => show 0 ≤ q.c ∧ q.c ≤ m + v; omega
    | _ + 3 => show 0 ≤ q.d + v ∧ q.d + v ≤ m + v; omega
def addT (qs : List Q4) (k l : Nat) (v : Int) : List Q4 := qs.set k ((qs.getD k Q4.nil).plus l v)
def pcT (rs : List Fac) : Nat → List Q4
  | 0 => [Q4.nil, Q4.nil, Q4.nil, Q4.nil]
  | i + 1 => if (rs.getD i default).l.size = 0 then addT (pcT rs i) ((edl rs).getD (rs.getD i default).a.toNat 0).toNat ((edf rs).getD (rs.getD i default).b.toNat 0).toNat ((usesOf rs).getD i 0) else pcT rs i
/-- how often each letter comes right behind each one -/
abbrev pcAll (rs : List Fac) : List Q4 := pcT rs rs.length
theorem pcT_len (rs : List Fac) : ∀ i, (pcT rs i).length = 4
  | 0 => rfl
  | i + 1 => by
    unfold pcT
    split
    · unfold addT; rw [List.length_set]; exact pcT_len rs i
    · exact pcT_len rs i
theorem pcT_pair {rs : List Fac} {i : Nat} {r : Fac} (h : rs[i]? = some r) (h0 : r.l.size = 0) : pcT rs (i + 1) = addT (pcT rs i) ((edl rs).getD r.a.toNat 0).toNat ((edf rs).getD r.b.toNat 0).toNat ((usesOf rs).getD i 0) := by
  show (if (rs.getD i default).l.size = 0 then _ else _) = _
  rw [fac_getD h, if_pos h0]
theorem pcT_let {rs : List Fac} {i : Nat} {r : Fac} (h : rs[i]? = some r) (h0 : r.l.size ≠ 0) : pcT rs (i + 1) = pcT rs i := by
  show (if (rs.getD i default).l.size = 0 then _ else _) = _
  rw [fac_getD h, if_neg h0]
theorem qgetD_set (qs : List Q4) (k j : Nat) (q : Q4) (hk : k < qs.length) : (qs.set k q).getD j Q4.nil = if j = k then q else qs.getD j Q4.nil := by
  rw [List.getD_eq_getElem?_getD, List.getD_eq_getElem?_getD, List.getElem?_set]
  by_cases h : k = j
  · subst h; simp [hk]
  · rw [if_neg h, if_neg (fun e => h e.symm)]
theorem pcT_bd {rs : List Fac} {ls : List Int} (hls : gLens rs [] = some ls) (hll : ls.length = rs.length) : ∀ i, i ≤ rs.length → ∀ k, ((pcT rs i).getD k Q4.nil).bd (1000000000000000 * i)
  | 0, _, k => by
    have : (pcT rs 0).getD k Q4.nil = Q4.nil := by
      match k with
      | 0 => rfl
      | 1 => rfl
      | 2 => rfl
      | 3 => rfl
      | _ + 4 => rfl
    rw [this]
    intro j
    match j with
    | 0 => exact ⟨Int.le_refl _, by simp [Q4.at_, Q4.nil]⟩
    | 1 => exact ⟨Int.le_refl _, by simp [Q4.at_, Q4.nil]⟩
    | 2 => exact ⟨Int.le_refl _, by simp [Q4.at_, Q4.nil]⟩
    | _ + 3 => exact ⟨Int.le_refl _, by simp [Q4.at_, Q4.nil]⟩
  | i + 1, hi, k => by
    have ih := pcT_bd hls hll i (by omega)
    have U := uses_inv hls hll (by omega)
    have u1 := U.nn i
    have u2 := U.bd i
    have up : ∀ {q : Q4} {m m' : Int}, q.bd m → m ≤ m' → q.bd m' := fun h h2 j => by have := h j; omega
    unfold pcT
    split
    · unfold addT
      by_cases hk : ((edl rs).getD (rs.getD i default).a.toNat 0).toNat < 4
      · rw [qgetD_set _ _ _ _ (by rw [pcT_len]; exact hk)]
        split
        · exact up (Q4.plus_bd (ih _) _ u1) (by omega)
        · exact up (ih k) (by omega)
      · rw [List.set_eq_of_length_le (by rw [pcT_len]; omega)]
        exact up (ih k) (by omega)
    · exact up (ih k) (by omega)
def totT (qs : List Q4) : Int := ((qs.getD 0 Q4.nil).sum + (qs.getD 1 Q4.nil).sum) + ((qs.getD 2 Q4.nil).sum + (qs.getD 3 Q4.nil).sum)
theorem totT_add (qs : List Q4) (hq : qs.length = 4) {k : Nat} (hk : k < 4) (l : Nat) (v : Int) : totT (addT qs k l v) = totT qs + v := by
  unfold totT addT
  rw [qgetD_set _ _ _ _ (by omega), qgetD_set _ _ _ _ (by omega), qgetD_set _ _ _ _ (by omega), qgetD_set _ _ _ _ (by omega)]
  match k, hk with
  | 0, _ => simp [Q4.plus_sum]; omega
  | 1, _ => simp [Q4.plus_sum]; omega
  | 2, _ => simp [Q4.plus_sum]; omega
  | 3, _ => simp [Q4.plus_sum]; omega
theorem pcT_tot {rs : List Fac} (hwf : WF rs) : ∀ i, i ≤ rs.length → totT (pcT rs i) = sumTo (useP rs (usesOf rs)) i
  | 0, _ => rfl
  | i + 1, hi => by
    have ih := pcT_tot hwf i (by omega)
    have gx : rs[i]? = some (rs[i]'(by omega)) := List.getElem?_eq_getElem _
    show _ = sumTo (useP rs (usesOf rs)) i + useP rs (usesOf rs) i
    unfold useP
    rw [fac_getD gx]
    rcases hwf i _ gx with ⟨h0, ha0, ha1, hb0, hb1⟩ | ⟨c, hc, hl, _⟩
    · rw [pcT_pair gx h0, if_pos h0, totT_add _ (pcT_len _ _) (by have := edl_b hwf (k := (rs[i]'(by omega)).a.toNat) (by omega); omega), ih]; rfl
    · have h0 : (rs[i]'(by omega)).l.size ≠ 0 := by rw [hl]; show (1 : Nat) ≠ 0; omega
      rw [pcT_let gx h0, if_neg h0, ih]; unfold useP; omega
/-- all pairs of letters: one less than letters -/
theorem pc_total {rs : List Fac} {ls : List Int} (hls : gLens rs [] = some ls) (hll : ls.length = rs.length) (h0 : 0 < rs.length) : totT (pcAll rs) = lastI ls - 1 := by
  rw [pcT_tot (wf_of hls) _ (Nat.le_refl _), uses_pairs hls hll h0]

/-- the rows of a table, which lie apart -/
def PTab (w : World) (base : Nat) (gs : List Nat) (qs : List Q4) : Prop := RowsOk w base gs qs ∧ ∀ (i j g : Nat), gs[i]? = some g → gs[j]? = some g → i = j
theorem PTab.below {w w' : World} {base : Nat} {gs : List Nat} {qs : List Q4} (h : PTab w base gs qs) (hb : Below w.heap.size w w') : PTab w' base gs qs :=
  ⟨⟨h.1.1, fun i g hg => ⟨(h.1.2 i g hg).1, (h.1.2 i g hg).2.next hb⟩⟩, h.2⟩
theorem PTab.at_ {w : World} {base : Nat} {gs : List Nat} {qs : List Q4} (h : PTab w base gs qs) {k g : Nat} (hg : gs[k]? = some g) {l : Nat} (hl : l < 4) : w.cell? ⟨g, l, none⟩ = some (.int .i64 ((qs.getD k Q4.nil).at_ l)) := by
  rw [(h.1.2 k g hg).2.cell l]
  simpa using encQ4_at (qs.getD k Q4.nil) hl
theorem PTab.set_ {w : World} {base : Nat} {gs : List Nat} {qs : List Q4} (h : PTab w base gs qs) {k g : Nat} (hg : gs[k]? = some g) {l : Nat} (hl : l < 4) (v : Int) :
    PTab (w.setCell ⟨g, l, none⟩ (.int .i64 ((qs.getD k Q4.nil).at_ l + v))) base gs (addT qs k l v) := by
  have hk : k < qs.length := by rw [← h.1.1]; exact (List.getElem?_eq_some_iff.1 hg).1
  refine ⟨⟨by unfold addT; rw [List.length_set]; exact h.1.1, fun i p hp => ⟨(h.1.2 i p hp).1, ?_⟩⟩, h.2⟩
  unfold addT
  rw [qgetD_set _ _ _ _ hk]
  by_cases hi : i = k
  · subst hi
    obtain rfl : g = p := Option.some.inj (hg.symm.trans hp)
    rw [if_pos rfl, ← Q4.plus_set _ hl]
    exact (h.1.2 i g hg).2.set_ l _
  · rw [if_neg hi]
    exact (h.1.2 i p hp).2.far (fun e => hi (by
      have e : p = g := e
      subst e
      exact h.2 i k p hp hg)) _
/-- what the makers of the table leave -/
def RetPT (w0 : World) (qs : List Q4) (e : Ending) (w' : World) : Prop :=
  ∃ A c gs, e = .returned (.slice A qs.length c) ∧ w'.ownsRow w0.heap.size 46 1 (.slice A qs.length c) qs.length (gs.flatMap encG) ∧ PTab w' w0.heap.size gs qs ∧ Below w0.heap.size w0 w'
/-- one row more -/
theorem PTab.push {w w9 : World} {k c' g : Nat} {A' : Option Addr} {gs : List Nat} {qs : List Q4} {q : Q4} {base : Nat} (h : PTab w base gs qs) (hk : qs.length = k) (hO : w.ownsRow base 46 1 (.slice A' k c') k (gs.flatMap encG))
    (BL : Blk w g 2 (encQ4 q).toArray) (hg : base ≤ g) (hn : ∀ (i p : Nat), gs[i]? = some p → p < g) (o : Obj) (hg9 : (w.alloc o).grownBy w9 (Value.slice A' k c').ownBlock) : PTab w9 base (gs ++ [g]) (qs ++ [q]) := by
  refine ⟨rows_push (hO.alloc o) h.1 hk BL hg (fun _ _ _ hB => hB.alloc o) hg9, fun i j p hi hj => ?_⟩
  have lt : ∀ i, (gs ++ [g])[i]? = some p → i < gs.length ∧ gs[i]? = some p ∨ i = gs.length ∧ p = g := fun i hi => by
    by_cases h1 : i < gs.length
    · exact .inl ⟨h1, by rwa [List.getElem?_append_left h1] at hi⟩
    · have h2 := (List.getElem?_eq_some_iff.1 hi).1
      simp at h2
      have h3 : i = gs.length := by omega
      subst h3
      rw [List.getElem?_append_right (by omega)] at hi
      exact .inr ⟨rfl, by simpa using hi.symm⟩
  rcases lt i hi with ⟨a1, a2⟩ | ⟨a1, a2⟩ <;> rcases lt j hj with ⟨b1, b2⟩ | ⟨b1, b2⟩
  · exact h.2 i j p a2 b2
  · have := hn i p a2; omega
  · have := hn j p b2; omega
  · omega
end Go.Proofs.Ytgdbpkpaacbhhaa


/-
  How often letters come behind letters: in the program.
-/
namespace Go.Proofs.Ytgdbpkpaacbhhaa
open Go.RowKit

def edgF (l : Nat) : Ed := ⟨(l : Int), (l : Int)⟩
def edgG (a b : Ed) (_ : Fac) : Ed := ⟨a.f, b.l⟩
abbrev edgAll (rs : List Fac) : List Ed := full Ed.nil edgF edgG rs
theorem edg_f {rs : List Fac} (hwf : WF rs) {k : Nat} (hk : k < rs.length) : ((edgAll rs).getD k Ed.nil).f = (edf rs).getD k 0 :=
  full_map Ed.nil edgF edgG 0 edF edGf Ed.f hwf (fun _ => rfl) (fun _ _ _ => rfl) k hk
theorem edg_l {rs : List Fac} (hwf : WF rs) {k : Nat} (hk : k < rs.length) : ((edgAll rs).getD k Ed.nil).l = (edl rs).getD k 0 :=
  full_map Ed.nil edgF edgG 0 edF edGl Ed.l hwf (fun _ => rfl) (fun _ _ _ => rfl) k hk
/-- rows that are empty yet -/
def zT (k : Nat) : List Q4 := List.replicate k Q4.nil
theorem zT_succ (k : Nat) : zT (k + 1) = zT k ++ [Q4.nil] := by unfold zT; rw [List.replicate_succ']
theorem PTab.lt {w : World} {base : Nat} {gs : List Nat} {qs : List Q4} (h : PTab w base gs qs) : ∀ (i p : Nat), gs[i]? = some p → p < w.heap.size := fun i p hi => (h.1.2 i p hi).2.lt
theorem PTab.next {w w' : World} {base : Nat} {gs : List Nat} {qs : List Q4} (h : PTab w base gs qs) (hb : Below w.heap.size w w') : PTab w' base gs qs := h.below hb
theorem PTab.drew {w : World} {base : Nat} {gs : List Nat} {qs : List Q4} (h : PTab w base gs qs) : PTab w.drew base gs qs := h
/-- other rows stay as they are when a row is written -/
theorem own_row_set {w : World} {base e size n g l : Nat} {v : Value} {xs : List Value} {cs : Array Value} (h : w.ownsRow base e size v n xs) (hg : Blk w g 2 cs) (hne : e ≠ 2) (u : Value) : (w.setCell ⟨g, l, none⟩ u).ownsRow base e size v n xs :=
  Go.ownsRow_setCell_other h (fun he => own_blk_ne h hg hne he.symm) u
theorem own_ne_ty {w : World} {b1 b2 e1 e2 s1 s2 n1 n2 : Nat} {v1 v2 : Value} {xs1 xs2 : List Value} (h1 : w.ownsRow b1 e1 s1 v1 n1 xs1) (h2 : w.ownsRow b2 e2 s2 v2 n2 xs2) (hne : e1 ≠ e2) : v1.ownBlock = none ∨ v1.ownBlock ≠ v2.ownBlock := by
  rcases h1.2 with ⟨rfl, _⟩ | ⟨g1, c1, u1, rfl, _, hh1, _⟩
  · left; rfl
  · right
    rcases h2.2 with ⟨rfl, _⟩ | ⟨g2, c2, u2, rfl, _, hh2, _⟩
    · simp [Value.ownBlock]
    · intro he
      have hg : g1 = g2 := by simpa [Value.ownBlock] using he
      subst hg
      rw [hh1] at hh2
      injection hh2 with hh2
      injection hh2 with _ ht
      exact hne ht
/-- the table under way, and the list of uses -/
structure PInv (w : World) (bu B : Nat) (Au : Option Addr) (n cu : Nat) (us : List Int) (A' : Option Addr) (k c' : Nat) (gs : List Nat) (qs : List Q4) (w' : World) : Prop where
  hb : Below w.heap.size w w'
  lo : w.heap.size ≤ B
  sz : B ≤ w'.heap.size
  ou : w'.ownsRow bu 2 1 (.slice Au n cu) n (us.flatMap intE)
  ub : ∀ p, (Value.slice Au n cu).ownBlock = some p → p < B
  o : w'.ownsRow w.heap.size 46 1 (.slice A' k c') k (gs.flatMap encG)
  q : PTab w' B gs qs
  len : qs.length = k
theorem PInv.next {w w1 w2 : World} {bu B : Nat} {Au : Option Addr} {n cu : Nat} {us : List Int} {A' : Option Addr} {k c' : Nat} {gs : List Nat} {qs : List Q4} (h : PInv w bu B Au n cu us A' k c' gs qs w1) (hb : Below w1.heap.size w1 w2) : PInv w bu B Au n cu us A' k c' gs qs w2 :=
  ⟨h.hb.trans (hb.mono h.hb.size), h.lo, Nat.le_trans h.sz hb.size, own_next h.ou hb, h.ub, own_next h.o hb, h.q.next hb, h.len⟩
theorem PInv.set_ {w w1 : World} {bu B : Nat} {Au : Option Addr} {n cu : Nat} {us : List Int} {A' : Option Addr} {k c' : Nat} {gs : List Nat} {qs : List Q4} (h : PInv w bu B Au n cu us A' k c' gs qs w1) {i g l : Nat} (hg : gs[i]? = some g) (hl : l < 4) (v : Int) :
    PInv w bu B Au n cu us A' k c' gs (addT qs i l v) (w1.setCell ⟨g, l, none⟩ (.int .i64 ((qs.getD i Q4.nil).at_ l + v))).drew := by
  have r := h.q.1.2 i g hg
  refine ⟨(h.hb.setCell (Nat.le_trans h.lo r.1) _).drew, h.lo, by simpa using h.sz, (Go.ownsRow_setCell_other h.ou (fun e => by have := h.ub _ e; have := r.1; simp at *; omega) _).drew, h.ub, (own_row_set h.o r.2 (by decide) _).drew, (h.q.set_ hg hl v).drew, by unfold addT; rw [List.length_set]; exact h.len⟩
theorem PInv.push {w wr w9 : World} {bu B : Nat} {Au : Option Addr} {n cu : Nat} {us : List Int} {A' A9 : Option Addr} {k c' c9 : Nat} {gs : List Nat} {qs : List Q4} {o : Obj} (h : PInv w bu B Au n cu us A' k c' gs qs wr)
    (own9 : w9.ownsRow w.heap.size 46 1 (.slice A9 (k + 1) c9) (k + 1) ((gs ++ [wr.heap.size]).flatMap encG))
    (hg9 : ((wr.alloc (.cells (encQ4 Q4.nil).toArray 2)).alloc o).grownBy w9 (Value.slice A' k c').ownBlock) : PInv w bu B Au n cu us A9 (k + 1) c9 (gs ++ [wr.heap.size]) (qs ++ [Q4.nil]) w9 := by
  have b0 := h.hb.size
  have hs : ((wr.alloc (.cells (encQ4 Q4.nil).toArray 2)).alloc o).heap.size = wr.heap.size + 2 := by simp
  refine ⟨((h.hb.alloc b0 _).alloc (by simp; omega) _).grown hg9 (by rw [hs]; omega) (own_ge h.o), h.lo, ?_, ?_, h.ub, own9, ?_, by rw [List.length_append]; simp [h.len]⟩
  · have := hg9.size; have := h.sz; omega
  · exact ((h.ou.alloc _).alloc _).kept hg9 (own_ne_ty h.ou h.o (by decide))
  · have P := PTab.push (w := wr.alloc (.cells (encQ4 Q4.nil).toArray 2)) (base := w.heap.size) (gs := gs) (qs := qs) ⟨⟨h.q.1.1, fun i g hg => ⟨Nat.le_trans h.lo (h.q.1.2 i g hg).1, (h.q.1.2 i g hg).2.alloc _⟩⟩, h.q.2⟩ h.len (h.o.alloc _) (Blk.new wr _ _) b0 h.q.lt o hg9
    refine ⟨⟨P.1.1, fun i g hg => ⟨?_, (P.1.2 i g hg).2⟩⟩, P.2⟩
    by_cases h1 : i < gs.length
    · rw [List.getElem?_append_left h1] at hg
      exact (h.q.1.2 i g hg).1
    · rw [List.getElem?_append_right (by omega)] at hg
      have h2 := (List.getElem?_eq_some_iff.1 hg).1
      rw [show i - gs.length = 0 by simp at h2; omega] at hg
      have : wr.heap.size = g := by simpa using hg
      rw [← this]; exact h.sz
theorem PInv.blk {w wr w9 : World} {bu B : Nat} {Au : Option Addr} {n cu : Nat} {us : List Int} {A' : Option Addr} {k c' : Nat} {gs : List Nat} {qs : List Q4} {o1 o2 : Obj} (h : PInv w bu B Au n cu us A' k c' gs qs wr) {g : Nat} {t : TypeId} {cs : Array Value} (hB : Blk wr g t cs) (ht : 46 ≠ t)
    (hg9 : ((wr.alloc o1).alloc o2).grownBy w9 (Value.slice A' k c').ownBlock) : Blk w9 g t cs :=
  ((hB.alloc _).alloc _).grown hg9 (own_blk_ne h.o hB ht)
theorem PInv.ret {w w1 : World} {bu B : Nat} {Au : Option Addr} {n cu : Nat} {us : List Int} {A' : Option Addr} {c' : Nat} {gs : List Nat} {rs : List Fac} (h : PInv w bu B Au n cu us A' 4 c' gs (pcT rs rs.length) w1) : RetPT w (pcAll rs) (.returned (.slice A' 4 c')) w1 := by
  refine ⟨A', c', gs, ret_slice (pcT_len _ _).symm, ?_, ⟨⟨h.q.1.1, fun i g hg => ⟨Nat.le_trans h.lo (h.q.1.2 i g hg).1, (h.q.1.2 i g hg).2⟩⟩, h.q.2⟩, h.hb⟩
  rw [pcT_len]; exact h.o
end Go.Proofs.Ytgdbpkpaacbhhaa


/-
  How often letters come behind letters: in the reference.
-/
namespace Go.Proofs.Ytgdbpkpaacbhhaa
open Go.RowKit

/-- two lists of numbers that grow -/
structure Two (w : World) (A1 : Option Addr) (k1 c1 : Nat) (xs1 : List Int) (A2 : Option Addr) (k2 c2 : Nat) (xs2 : List Int) (w' : World) : Prop where
  hb : Below w.heap.size w w'
  o1 : w'.ownsRow w.heap.size 2 1 (.slice A1 k1 c1) k1 (xs1.flatMap intE)
  o2 : w'.ownsRow w.heap.size 2 1 (.slice A2 k2 c2) k2 (xs2.flatMap intE)
  ne : ∀ p, (Value.slice A1 k1 c1).ownBlock = some p → (Value.slice A2 k2 c2).ownBlock ≠ some p
theorem Two.next {w w1 w2 : World} {A1 A2 : Option Addr} {k1 c1 k2 c2 : Nat} {xs1 xs2 : List Int} (h : Two w A1 k1 c1 xs1 A2 k2 c2 xs2 w1) (hb : Below w1.heap.size w1 w2) : Two w A1 k1 c1 xs1 A2 k2 c2 xs2 w2 :=
  ⟨h.hb.trans (hb.mono h.hb.size), own_next h.o1 hb, own_next h.o2 hb, h.ne⟩
theorem Two.swap {w w1 : World} {A1 A2 : Option Addr} {k1 c1 k2 c2 : Nat} {xs1 xs2 : List Int} (h : Two w A1 k1 c1 xs1 A2 k2 c2 xs2 w1) : Two w A2 k2 c2 xs2 A1 k1 c1 xs1 w1 :=
  ⟨h.hb, h.o2, h.o1, fun p h2 h1 => h.ne p h1 h2⟩
theorem Two.push {w wr w9 : World} {A1 A2 A9 : Option Addr} {k1 c1 k2 c2 c9 : Nat} {xs1 xs2 : List Int} {o : Obj} {v : Int} (h : Two w A1 k1 c1 xs1 A2 k2 c2 xs2 wr)
    (own9 : w9.ownsRow w.heap.size 2 1 (.slice A9 (k1 + 1) c9) (k1 + 1) ((xs1 ++ [v]).flatMap intE))
    (hg9 : (wr.alloc o).grownBy w9 (Value.slice A1 k1 c1).ownBlock)
    (hat9 : (Value.slice A9 (k1 + 1) c9).ownBlock = (Value.slice A1 k1 c1).ownBlock ∨ (Value.slice A9 (k1 + 1) c9).ownBlock = some (wr.alloc o).heap.size) : Two w A9 (k1 + 1) c9 (xs1 ++ [v]) A2 k2 c2 xs2 w9 := by
  have b0 := h.hb.size
  refine ⟨(h.hb.alloc b0 _).grown hg9 (by simp; omega) (own_ge h.o1), own9, (h.o2.alloc _).kept hg9 ?_, fun p hp => ?_⟩
  · cases hv : (Value.slice A2 k2 c2).ownBlock with
    | none => exact .inl rfl
    | some q => exact .inr fun e => h.ne q e.symm hv
  · rcases hat9 with e | e
    · exact h.ne p (e.symm.trans hp)
    · intro e2
      rw [hp] at e
      have := (h.o2.lt p e2).2
      injection e with e
      simp at e
      omega
/-- what 'l05Edges' leaves -/
def RetTwo (w : World) (xs ys : List Int) (e : Ending) (w' : World) : Prop :=
  ∃ A1 c1 A2 c2, e = .returned (.tuple #[.slice A1 xs.length c1, .slice A2 ys.length c2]) ∧ w'.ownsRow w.heap.size 2 1 (.slice A1 xs.length c1) xs.length (xs.flatMap intE) ∧ w'.ownsRow w.heap.size 2 1 (.slice A2 ys.length c2) ys.length (ys.flatMap intE) ∧ Below w.heap.size w w'
/-- the table under way -/
structure PTin (w : World) (A' : Option Addr) (k c' : Nat) (gs : List Nat) (qs : List Q4) (w' : World) : Prop where
  hb : Below w.heap.size w w'
  o : w'.ownsRow w.heap.size 46 1 (.slice A' k c') k (gs.flatMap encG)
  q : PTab w' w.heap.size gs qs
  len : qs.length = k
theorem PTin.next {w w1 w2 : World} {A' : Option Addr} {k c' : Nat} {gs : List Nat} {qs : List Q4} (h : PTin w A' k c' gs qs w1) (hb : Below w1.heap.size w1 w2) : PTin w A' k c' gs qs w2 :=
  ⟨h.hb.trans (hb.mono h.hb.size), own_next h.o hb, h.q.next hb, h.len⟩
theorem PTin.set_ {w w1 : World} {A' : Option Addr} {k c' : Nat} {gs : List Nat} {qs : List Q4} (h : PTin w A' k c' gs qs w1) {i g l : Nat} (hg : gs[i]? = some g) (hl : l < 4) (v : Int) :
    PTin w A' k c' gs (addT qs i l v) (w1.setCell ⟨g, l, none⟩ (.int .i64 ((qs.getD i Q4.nil).at_ l + v))) := by
  have r := h.q.1.2 i g hg
  exact ⟨h.hb.setCell r.1 _, own_row_set h.o r.2 (by decide) _, h.q.set_ hg hl v, by unfold addT; rw [List.length_set]; exact h.len⟩
theorem PTin.push {w wr w9 : World} {A' A9 : Option Addr} {k c' c9 : Nat} {gs : List Nat} {qs : List Q4} {o : Obj} (h : PTin w A' k c' gs qs wr)
    (own9 : w9.ownsRow w.heap.size 46 1 (.slice A9 (k + 1) c9) (k + 1) ((gs ++ [wr.heap.size]).flatMap encG))
    (hg9 : ((wr.alloc (.cells (encQ4 Q4.nil).toArray 2)).alloc o).grownBy w9 (Value.slice A' k c').ownBlock) : PTin w A9 (k + 1) c9 (gs ++ [wr.heap.size]) (qs ++ [Q4.nil]) w9 := by
  have b0 := h.hb.size
  have hs : ((wr.alloc (.cells (encQ4 Q4.nil).toArray 2)).alloc o).heap.size = wr.heap.size + 2 := by simp
  refine ⟨((h.hb.alloc b0 _).alloc (by simp; omega) _).grown hg9 (by rw [hs]; omega) (own_ge h.o), own9, ?_, by rw [List.length_append]; simp [h.len]⟩
  exact PTab.push (w := wr.alloc (.cells (encQ4 Q4.nil).toArray 2)) (base := w.heap.size) (gs := gs) (qs := qs) ⟨⟨h.q.1.1, fun i g hg => ⟨(h.q.1.2 i g hg).1, (h.q.1.2 i g hg).2.alloc _⟩⟩, h.q.2⟩ h.len (h.o.alloc _) (Blk.new wr _ _) b0 h.q.lt o hg9
theorem PTin.ret {w w1 : World} {A' : Option Addr} {c' : Nat} {gs : List Nat} {rs : List Fac} (h : PTin w A' 4 c' gs (pcT rs rs.length) w1) : RetPT w (pcAll rs) (.returned (.slice A' 4 c')) w1 := by
  refine ⟨A', c', gs, ret_slice (pcT_len _ _).symm, ?_, h.q, h.hb⟩
  rw [pcT_len]; exact h.o
theorem own_cell {w : World} {base n c : Nat} {A : Option Addr} {xs : List Int} (h : w.ownsRow base 2 1 (.slice A n c) n (xs.flatMap intE)) (hl : xs.length = n) {i : Nat} (hi : i < n) :
    ∃ g, A = some ⟨g, 0, none⟩ ∧ base ≤ g ∧ g < w.heap.size ∧ w.cell? ⟨g, i, none⟩ = some (.int .i64 (xs.getD i 0)) := by
  obtain ⟨g, cp, hv, h1, h2⟩ := h.form (by omega)
  obtain rfl : A = some ⟨g, 0, none⟩ := by injection hv
  refine ⟨g, rfl, h1, h2, ?_⟩
  have := own_at (sz := 1) (enc := intE) (fun _ _ => rfl) h hl 0 i hi 0 (by omega)
  rw [Nat.mul_one, Nat.add_zero] at this; exact this
end Go.Proofs.Ytgdbpkpaacbhhaa


/-
  The number of runs: in the program and in the reference.
-/
namespace Go.Proofs.Ytgdbpkpaacbhhaa
open Go.RowKit

def offA (qs : List Q4) (k l : Nat) : Int := if k = l then 0 else (qs.getD k Q4.nil).at_ l
def rowOff (qs : List Q4) (k : Nat) : Int := sumTo (offA qs k) 4
def diagA (qs : List Q4) (k : Nat) : Int := (qs.getD k Q4.nil).at_ k
theorem off_diag (qs : List Q4) : sumTo (rowOff qs) 4 + sumTo (diagA qs) 4 = totT qs := by
  simp only [sumTo, rowOff, offA, diagA, totT, Q4.sum, Q4.at_, if_true, show ¬ (0 : Nat) = 1 by omega, show ¬ (0 : Nat) = 2 by omega, show ¬ (0 : Nat) = 3 by omega, show ¬ (1 : Nat) = 0 by omega, show ¬ (1 : Nat) = 2 by omega, show ¬ (1 : Nat) = 3 by omega,
    show ¬ (2 : Nat) = 0 by omega, show ¬ (2 : Nat) = 1 by omega, show ¬ (2 : Nat) = 3 by omega, show ¬ (3 : Nat) = 0 by omega, show ¬ (3 : Nat) = 1 by omega, show ¬ (3 : Nat) = 2 by omega, if_false]
  omega
def runsN (rs : List Fac) : Int := if rs.length = 0 then 0 else 1 + sumTo (rowOff (pcAll rs)) 4
theorem runs_spec {rs : List Fac} {ls : List Int} (hls : gLens rs [] = some ls) (hll : ls.length = rs.length) : lastI ls - sumTo (diagA (pcAll rs)) 4 = runsN rs := by
  unfold runsN
  split
  · rename_i h
    have h1 := List.eq_nil_of_length_eq_zero h
    subst h1
    have h2 := List.eq_nil_of_length_eq_zero hll
    subst h2
    rfl
  · have := off_diag (pcAll rs)
    rw [pc_total hls hll (by omega)] at this
    omega
def runsV (rs : List Fac) : Value := if (gOk rs).isSome = false then tup2 0 1 else tup2 (runsN rs) 0
theorem runsV_form (rs : List Fac) : ∃ b k, runsV rs = .tuple #[.int .i64 b, .int .i64 k] := by
  unfold runsV
  split
  · exact ⟨_, _, rfl⟩
  · exact ⟨_, _, rfl⟩
theorem runsV1 {rs : List Fac} (h : (gOk rs).isSome = false) : runsV rs = tup2 0 1 := by unfold runsV; rw [if_pos h]
theorem runsV2 {rs : List Fac} (h : (gOk rs).isSome = true) : runsV rs = tup2 (runsN rs) 0 := by unfold runsV; rw [if_neg (by rw [h]; decide)]
theorem offA_b {rs : List Fac} {ls : List Int} (hls : gLens rs [] = some ls) (hll : ls.length = rs.length) (hn : rs.length ≤ 400) (k l : Nat) : 0 ≤ ((pcAll rs).getD k Q4.nil).at_ l ∧ ((pcAll rs).getD k Q4.nil).at_ l ≤ 400000000000000000 := by
  have := pcT_bd hls hll rs.length (Nat.le_refl _) k l
  exact ⟨this.1, Int.le_trans this.2 (by omega)⟩
end Go.Proofs.Ytgdbpkpaacbhhaa


/-
  What rules add, each as often as it is met; the pairs of letters of a word.
-/
namespace Go.Proofs.Ytgdbpkpaacbhhaa

theorem sum_one (n a : Nat) (v : Int) (f : Nat → Int) (h : a < n) : sumTo (fun j => (if j = a then v else 0) * f j) n = v * f a := by
  rw [sumTo_upd (g := fun _ => 0) a h (fun j _ hne => by simp [hne]), sumTo_zero (fun _ _ => rfl)]
  simp
theorem use_go {rs : List Fac} (hwf : WF rs) (c dl : Nat → Int) (hp : ∀ (i : Nat) (r : Fac), rs[i]? = some r → r.l.size = 0 → c i = c r.a.toNat + c r.b.toNat + dl i)
    (hl : ∀ (i : Nat) (r : Fac), rs[i]? = some r → r.l.size ≠ 0 → c i = 0 ∧ dl i = 0) (T : Int) :
    ∀ (m : Nat) (us : List Int), m ≤ rs.length → us.length = rs.length → sumTo (fun j => us.getD j 0 * c j) m + (sumTo (fun j => us.getD j 0 * dl j) rs.length - sumTo (fun j => us.getD j 0 * dl j) m) = T →
      sumTo (fun j => (useGo rs m us).getD j 0 * dl j) rs.length = T
  | 0, us, _, _, h => by
    have e1 : sumTo (fun j => us.getD j 0 * c j) 0 = 0 := rfl
    have e2 : sumTo (fun j => us.getD j 0 * dl j) 0 = 0 := rfl
    show sumTo (fun j => us.getD j 0 * dl j) rs.length = T
    omega
  | i + 1, us, hm, hlen, h => by
    have hr : rs[i]? = some rs[i] := List.getElem?_eq_getElem (by omega)
    have e1 : sumTo (fun j => us.getD j 0 * c j) (i + 1) = sumTo (fun j => us.getD j 0 * c j) i + us.getD i 0 * c i := rfl
    have e2 : sumTo (fun j => us.getD j 0 * dl j) (i + 1) = sumTo (fun j => us.getD j 0 * dl j) i + us.getD i 0 * dl i := rfl
    show sumTo (fun j => (useGo rs i (usStep rs us i)).getD j 0 * dl j) rs.length = T
    unfold usStep
    rw [fac_getD hr]
    rcases hwf i _ hr with ⟨h0, a0, a1, b0, b1⟩ | ⟨u, _, hlu, _, _⟩
    · rw [if_pos h0]
      have hc := hp i _ hr h0
      refine use_go hwf c dl hp hl T i _ (by omega) (by rw [usePair_len]; exact hlen) ?_
      have hat := usePair_at (us := us) (a := rs[i].a.toNat) (b := rs[i].b.toNat) (i := i) (by omega) (by omega)
      have s1 : sumTo (fun j => (usePair us rs[i].a.toNat rs[i].b.toNat i).getD j 0 * c j) i = sumTo (fun j => us.getD j 0 * c j) i + us.getD i 0 * c rs[i].a.toNat + us.getD i 0 * c rs[i].b.toNat := by
        rw [sumTo_congr (g := fun j => (us.getD j 0 * c j + (if j = rs[i].a.toNat then us.getD i 0 else 0) * c j) + (if j = rs[i].b.toNat then us.getD i 0 else 0) * c j) (fun j _ => by rw [hat, Int.add_mul, Int.add_mul]), sumTo_add, sumTo_add, sum_one _ _ _ _ (by omega), sum_one _ _ _ _ (by omega)]
      have s2 : sumTo (fun j => (usePair us rs[i].a.toNat rs[i].b.toNat i).getD j 0 * dl j) rs.length - sumTo (fun j => (usePair us rs[i].a.toNat rs[i].b.toNat i).getD j 0 * dl j) i = sumTo (fun j => us.getD j 0 * dl j) rs.length - sumTo (fun j => us.getD j 0 * dl j) i :=
        sumTo_diff (by omega) (fun j h1 h2 => by rw [hat, if_neg (by omega), if_neg (by omega)]; simp)
      have s3 : us.getD i 0 * c i = us.getD i 0 * c rs[i].a.toNat + us.getD i 0 * c rs[i].b.toNat + us.getD i 0 * dl i := by rw [hc, Int.mul_add, Int.mul_add]
      omega
    · have hz : rs[i].l.size ≠ 0 := by rw [hlu]; show (1 : Nat) ≠ 0; omega
      rw [if_neg hz]
      obtain ⟨z1, z2⟩ := hl i _ hr hz
      refine use_go hwf c dl hp hl T i us (by omega) hlen ?_
      rw [z1] at e1
      rw [z2] at e2
      simp only [Int.mul_zero] at e1 e2
      omega
/-- what is added at each rule of a pair, over all places where it is met -/
theorem use_sum {rs : List Fac} (hwf : WF rs) (h0 : 0 < rs.length) (c dl : Nat → Int) (hp : ∀ (i : Nat) (r : Fac), rs[i]? = some r → r.l.size = 0 → c i = c r.a.toNat + c r.b.toNat + dl i)
    (hl : ∀ (i : Nat) (r : Fac), rs[i]? = some r → r.l.size ≠ 0 → c i = 0 ∧ dl i = 0) : sumTo (fun j => (usesOf rs).getD j 0 * dl j) rs.length = c (rs.length - 1) := by
  refine use_go hwf c dl hp hl _ rs.length (us0 rs.length) (Nat.le_refl _) (by simp [us0]) ?_
  have e : sumTo (fun j => (us0 rs.length).getD j 0 * c j) rs.length = c (rs.length - 1) := by
    rw [sumTo_congr (g := fun j => (if j = rs.length - 1 then 1 else 0) * c j) (fun j _ => by rw [use0_at _ _ h0]), sum_one _ _ _ _ (by omega)]
    simp
  omega
/-- how often a letter stands right behind one -/
def adj (k l : Nat) : List Nat → Int
  | [] => 0
  | x :: r => (if x = k ∧ r.head? = some l then 1 else 0) + adj k l r
theorem adj_app (k l : Nat) : ∀ (u v : List Nat), u ≠ [] → adj k l (u ++ v) = adj k l u + adj k l v + if u.getLast? = some k ∧ v.head? = some l then 1 else 0
  | [], _, h => absurd rfl h
  | [x], v, _ => by
    simp only [List.singleton_append, adj, List.head?_nil, List.getLast?_singleton, Option.some.injEq]
    simp; omega
  | x :: y :: r, v, _ => by
    have ih := adj_app k l (y :: r) v (by simp)
    have e : (y :: r ++ v).head? = some y := rfl
    show (if x = k ∧ (y :: r ++ v).head? = some l then 1 else 0) + adj k l (y :: r ++ v) = (if x = k ∧ (y :: r).head? = some l then 1 else 0) + adj k l (y :: r) + adj k l v + _
    rw [ih, e, List.head?_cons, List.getLast?_cons_cons]; omega
theorem edf_word {rs : List Fac} (hwf : WF rs) {k : Nat} (hk : k < rs.length) : (edf rs).getD k 0 = ((((wds rs).getD k []).head?.getD 0 : Nat) : Int) :=
  full_hom (d := (0 : Int)) (F := edF) (G := edGf) hwf (fun u => ((u.head?.getD 0 : Nat) : Int)) (fun k _ => rfl) (fun u v r hu _ _ _ => by
    obtain ⟨x, t, rfl⟩ := List.exists_cons_of_ne_nil hu; rfl) k hk
theorem edl_word {rs : List Fac} (hwf : WF rs) {k : Nat} (hk : k < rs.length) : (edl rs).getD k 0 = ((((wds rs).getD k []).getLast?.getD 0 : Nat) : Int) :=
  full_hom (d := (0 : Int)) (F := edF) (G := edGl) hwf (fun u => ((u.getLast?.getD 0 : Nat) : Int)) (fun k _ => rfl) (fun u v r _ hv _ _ => by
    simp only [edGl]
    rw [List.getLast?_append, List.getLast?_eq_some_getLast hv]; rfl) k hk
theorem Q4.plus_at (q : Q4) {l j : Nat} (hl : l < 4) (hj : j < 4) (v : Int) : (q.plus l v).at_ j = q.at_ j + if j = l then v else 0 := by
  match l, hl, j, hj with
  | 0, _, 0, _ => rfl
  | 0, _, 1, _ => simp [Q4.plus, Q4.at_]
  | 0, _, 2, _ => simp [Q4.plus, Q4.at_]
  | 0, _, 3, _ => simp [Q4.plus, Q4.at_]
  | 1, _, 0, _ => simp [Q4.plus, Q4.at_]
  | 1, _, 1, _ => rfl
  | 1, _, 2, _ => simp [Q4.plus, Q4.at_]
  | 1, _, 3, _ => simp [Q4.plus, Q4.at_]
  | 2, _, 0, _ => simp [Q4.plus, Q4.at_]
  | 2, _, 1, _ => simp [Q4.plus, Q4.at_]
  | 2, _, 2, _ => rfl
  | 2, _, 3, _ => simp [Q4.plus, Q4.at_]
  | 3, _, 0, _ => simp [Q4.plus, Q4.at_]
  | 3, _, 1, _ => simp [Q4.plus, Q4.at_]
  | 3, _, 2, _ => simp [Q4.plus, Q4.at_]
  | 3, _, 3, _ => rfl
theorem addT_at {qs : List Q4} (hq : qs.length = 4) {k l k' l' : Nat} (hk : k < 4) (hl : l < 4) (hl' : l' < 4) (v : Int) : ((addT qs k l v).getD k' Q4.nil).at_ l' = (qs.getD k' Q4.nil).at_ l' + if k' = k ∧ l' = l then v else 0 := by
  unfold addT
  rw [qgetD_set _ _ _ _ (by omega)]
  by_cases h : k' = k
  · rw [if_pos h, Q4.plus_at _ hl hl', h]
    simp
  · rw [if_neg h, if_neg (fun q => h q.1)]; omega
/-- what a pair's rule adds -/
def adD (rs : List Fac) (k l j : Nat) : Int := if (rs.getD j default).l.size = 0 then (if ((wds rs).getD (rs.getD j default).a.toNat []).getLast? = some k ∧ ((wds rs).getD (rs.getD j default).b.toNat []).head? = some l then 1 else 0) else 0
theorem pcT_word {rs : List Fac} (hwf : WF rs) {k l : Nat} (_hk : k < 4) (hl : l < 4) : ∀ i, i ≤ rs.length → ((pcT rs i).getD k Q4.nil).at_ l = sumTo (fun j => (usesOf rs).getD j 0 * adD rs k l j) i
  | 0, _ => by
    have e : sumTo (fun j => (usesOf rs).getD j 0 * adD rs k l j) 0 = 0 := rfl
    rw [e]
    unfold pcT
    match k, _hk with
    | 0, _ => match l, hl with | 0, _ => rfl | 1, _ => rfl | 2, _ => rfl | 3, _ => rfl
    | 1, _ => match l, hl with | 0, _ => rfl | 1, _ => rfl | 2, _ => rfl | 3, _ => rfl
    | 2, _ => match l, hl with | 0, _ => rfl | 1, _ => rfl | 2, _ => rfl | 3, _ => rfl
    | 3, _ => match l, hl with | 0, _ => rfl | 1, _ => rfl | 2, _ => rfl | 3, _ => rfl
  | i + 1, hi => by
    have ih := pcT_word hwf _hk hl i (by omega)
    have hr : rs[i]? = some rs[i] := List.getElem?_eq_getElem (by omega)
    have e : sumTo (fun j => (usesOf rs).getD j 0 * adD rs k l j) (i + 1) = sumTo (fun j => (usesOf rs).getD j 0 * adD rs k l j) i + (usesOf rs).getD i 0 * adD rs k l i := rfl
    rw [e, ← ih]
    rcases hwf i _ hr with ⟨h0, a0, a1, b0, b1⟩ | ⟨u, _, hlu, _, _⟩
    · rw [pcT_pair hr h0]
      unfold adD
      rw [fac_getD hr, if_pos h0]
      have la := edl_word hwf (k := rs[i].a.toNat) (by omega)
      have fb := edf_word hwf (k := rs[i].b.toNat) (by omega)
      obtain ⟨x, t, hx⟩ := List.exists_cons_of_ne_nil (wds_pos hwf (k := rs[i].b.toNat) (by omega))
      have hne := wds_pos hwf (k := rs[i].a.toNat) (by omega)
      have hla := List.getLast?_eq_some_getLast hne
      have b1' := wds_let hwf (k := rs[i].a.toNat) (by omega) _ (List.getLast_mem hne)
      have b2' := wds_let hwf (k := rs[i].b.toNat) (by omega) x (by rw [hx]; simp)
      rw [hla] at la ⊢
      rw [hx] at fb ⊢
      simp only [Option.getD_some, List.head?_cons] at la fb ⊢
      rw [la, fb, Int.toNat_natCast, Int.toNat_natCast, addT_at (pcT_len _ _) b1' b2' hl]
      simp only [Option.some.injEq]
      split
      · rename_i h; rw [if_pos ⟨h.1.symm, h.2.symm⟩]; simp
      · rename_i h; rw [if_neg (fun q => h ⟨q.1.symm, q.2.symm⟩)]; simp
    · have hz : rs[i].l.size ≠ 0 := by rw [hlu]; show (1 : Nat) ≠ 0; omega
      rw [pcT_let hr hz]
      unfold adD
      rw [fac_getD hr, if_neg hz]; simp
/-- the pairs of letters are those of the word -/
theorem pc_word {rs : List Fac} (hwf : WF rs) {k l : Nat} (hk : k < 4) (hl : l < 4) : ((pcAll rs).getD k Q4.nil).at_ l = adj k l (wdN rs) := by
  unfold pcAll
  rw [pcT_word hwf hk hl _ (Nat.le_refl _)]
  unfold wdN
  split
  · rename_i h; subst h; rfl
  · rename_i h
    have h0 : 0 < rs.length := List.length_pos_iff.2 h
    refine use_sum hwf h0 (fun j => adj k l ((wds rs).getD j [])) (adD rs k l) (fun i r hr hz => ?_) (fun i r hr hz => ?_)
    · have hi := (List.getElem?_eq_some_iff.1 hr).1
      rcases hwf i r hr with ⟨_, a0, a1, b0, b1⟩ | ⟨u, _, hlu, _, _⟩
      · unfold adD
        rw [fac_getD hr, if_pos hz]
        rw [show (wds rs).getD i [] = (wds rs).getD r.a.toNat [] ++ (wds rs).getD r.b.toNat [] from full_pair [] wdF wdG hwf hr hz, adj_app k l _ _ (wds_pos hwf (by omega))]
      · rw [hlu] at hz; exact absurd hz (show ¬ (1 : Nat) = 0 by omega)
    · unfold adD
      rw [fac_getD hr, if_neg hz]
      refine ⟨?_, rfl⟩
      rw [show (wds rs).getD i [] = [letN r.l] from full_let [] wdF wdG hr hz]
      simp [adj]
end Go.Proofs.Ytgdbpkpaacbhhaa


/-
  Counts, ranks and selections of letters, inversions and places: what they are for the word.
-/
namespace Go.Proofs.Ytgdbpkpaacbhhaa

def cn (l : Nat) (u : List Nat) : Int := (u.count l : Int)
theorem cn_app (l : Nat) (u v : List Nat) : cn l (u ++ v) = cn l u + cn l v := by simp [cn, List.count_append]
theorem cn_nil (l : Nat) : cn l [] = 0 := rfl
theorem cn_cons (l x : Nat) (u : List Nat) : cn l (x :: u) = (if x = l then 1 else 0) + cn l u := by
  unfold cn
  rw [List.count_cons]
  by_cases h : x = l
  · simp [h]; omega
  · simp [h]
theorem cn_rev (l : Nat) (u : List Nat) : cn l u.reverse = cn l u := by simp [cn]
theorem cn_nn (l : Nat) (u : List Nat) : 0 ≤ cn l u := by unfold cn; omega
theorem cn_le (l : Nat) (u : List Nat) : cn l u ≤ u.length := by unfold cn; exact Int.ofNat_le.2 List.count_le_length
/-- all counts of a word -/
def cq (u : List Nat) : Q4 := ⟨cn 0 u, cn 1 u, cn 2 u, cn 3 u⟩
theorem cq_at (u : List Nat) {l : Nat} (h : l < 4) : (cq u).at_ l = cn l u := by
  match l, h with
  | 0, _ => rfl
  | 1, _ => rfl
  | 2, _ => rfl
  | 3, _ => rfl
theorem cnts_word {rs : List Fac} (hwf : WF rs) {k : Nat} (hk : k < rs.length) : (cnts rs).getD k Q4.nil = cq ((wds rs).getD k []) := by
  refine full_hom (d := Q4.nil) (F := cntF) (G := cntG) hwf cq (fun l hl => ?_) (fun u v r _ _ _ _ => ?_) k hk
  · match l, hl with
    | 0, _ => rfl
    | 1, _ => rfl
    | 2, _ => rfl
    | 3, _ => rfl
  · simp only [cntG, cq, cn_app]
theorem topQ_word {rs : List Fac} (hwf : WF rs) : topQ rs = cq (wdN rs) := by
  unfold topQ wdN
  by_cases h : rs = []
  · subst h; rfl
  · have h0 : rs.length ≠ 0 := fun e => h (List.eq_nil_of_length_eq_zero e)
    rw [if_neg h0, if_neg h, cnts_word hwf (by omega)]
section
variable {rs : List Fac} {ls : List Int}
theorem wds_kids (hwf : WF rs) {r : Nat} {x : Fac} (hx : rs[r]? = some x) (h : ((wds rs).getD r []).length ≠ 1 ∨ x.l.size = 0) :
    x.l.size = 0 ∧ x.a.toNat < r ∧ x.b.toNat < r ∧ (wds rs).getD r [] = (wds rs).getD x.a.toNat [] ++ (wds rs).getD x.b.toNat [] := by
  rcases hwf r x hx with ⟨h0, a0, a1, b0, b1⟩ | ⟨c, hc, hl, _, _⟩
  · exact ⟨h0, by omega, by omega, full_pair [] wdF wdG hwf hx h0⟩
  · exfalso
    have e2 := full_let (d := []) (F := wdF) (G := wdG) hx (by rw [hl]; show (1 : Nat) ≠ 0; omega)
    rcases h with h | h
    · apply h; unfold wds; rw [e2]; rfl
    · rw [hl] at h; exact absurd h (show ¬ (1 : Nat) = 0 by omega)
theorem rk_word (hls : gLens rs [] = some ls) {l : Nat} (hl : l < 4) : ∀ (f r : Nat) (m : Int), r < f → r < rs.length → rk (rkV rs l) ls rs f r m = cn l (((wds rs).getD r []).take m.toNat)
  | 0, _, _, h, _ => by omega
  | f + 1, r, m, _, hr => by
    have hwf := wf_of hls
    have hlen := lens_word hls hr
    rw [rk]
    by_cases h0 : m ≤ 0
    · rw [if_pos h0, show m.toNat = 0 by omega]; rfl
    rw [if_neg h0]
    by_cases h1 : ls.getD r 0 ≤ m
    · rw [if_pos h1, List.take_of_length_le (by omega)]
      unfold rkV
      rw [cnts_word hwf hr, cq_at _ hl]
    rw [if_neg h1]
    have hx : rs[r]? = some (rs[r]'hr) := List.getElem?_eq_getElem _
    rw [hx]
    obtain ⟨h2, ha, hb, e⟩ := wds_kids hwf hx (.inl (by omega))
    show rk (rkV rs l) ls rs f _ m + rk (rkV rs l) ls rs f _ _ = _
    rw [rk_word hls hl f _ m (by omega) (by omega), rk_word hls hl f _ _ (by omega) (by omega), e, List.take_append, cn_app, lens_word hls (by omega)]
    congr 2
    congr 1
    omega
theorem rkT_word (hls : gLens rs [] = some ls) {l : Nat} (hl : l < 4) (m : Int) : rkT (rkV rs l) ls rs m = cn l ((wdN rs).take m.toNat) := by
  unfold rkT
  by_cases h : rs = []
  · subst h; simp [wdN, cn]
  · have h0 : rs.length ≠ 0 := fun e => h (List.eq_nil_of_length_eq_zero e)
    rw [if_neg h0, rk_word hls hl _ _ _ (by omega) (by omega)]
    unfold wdN; rw [if_neg h]
theorem selGo_word (hls : gLens rs [] = some ls) {l : Nat} (hl : l < 4) : ∀ (f r : Nat) (k n : Int), r < f → r < rs.length → 0 ≤ k → k < cn l ((wds rs).getD r []) →
    ∃ j : Nat, selGo (cnts rs) ls rs l f r k n = n + j ∧ ((wds rs).getD r [])[j]? = some l ∧ cn l (((wds rs).getD r []).take j) = k
  | 0, _, _, _, h, _, _, _ => by omega
  | f + 1, r, k, n, _, hr, k0, k1 => by
    have hwf := wf_of hls
    have hx : rs[r]? = some (rs[r]'hr) := List.getElem?_eq_getElem _
    by_cases h0 : (rs[r]'hr).l.size = 0
    · obtain ⟨h2, ha, hb, e⟩ := wds_kids hwf hx (.inr h0)
      rw [selGo_step (by omega) hx h0, cnts_word hwf (by omega), cq_at _ hl, Nat.add_sub_cancel]
      rw [e, cn_app] at k1
      by_cases hlt : k < cn l ((wds rs).getD (rs[r]'hr).a.toNat [])
      · rw [if_pos hlt]
        obtain ⟨j, e1, e2, e3⟩ := selGo_word hls hl f (rs[r]'hr).a.toNat k n (by omega) (by omega) k0 hlt
        have hj := (List.getElem?_eq_some_iff.1 e2).1
        refine ⟨j, e1, ?_, ?_⟩
        · rw [e, List.getElem?_append_left hj]; exact e2
        · rw [e, List.take_append_of_le_length (by omega)]; exact e3
      · rw [if_neg hlt]
        obtain ⟨j, e1, e2, e3⟩ := selGo_word hls hl f (rs[r]'hr).b.toNat (k - cn l ((wds rs).getD (rs[r]'hr).a.toNat [])) (n + ls.getD (rs[r]'hr).a.toNat 0) (by omega) (by omega) (by omega) (by omega)
        have hlw := lens_word hls (show (rs[r]'hr).a.toNat < rs.length by omega)
        refine ⟨((wds rs).getD (rs[r]'hr).a.toNat []).length + j, by rw [e1, hlw]; omega, ?_, ?_⟩
        · rw [e, List.getElem?_append_right (by omega), Nat.add_sub_cancel_left]; exact e2
        · rw [e, List.take_append, List.take_of_length_le (by omega), cn_app, Nat.add_sub_cancel_left, e3]; omega
    · rw [selGo_stop (by omega) hx h0]
      have e2 := full_let (d := []) (F := wdF) (G := wdG) hx h0
      have e3 : (wds rs).getD r [] = [letN (rs[r]'hr).l] := e2
      rw [e3] at k1 ⊢
      rw [cn_cons, cn_nil] at k1
      by_cases hll : letN (rs[r]'hr).l = l
      · refine ⟨0, by omega, by rw [hll]; rfl, ?_⟩
        rw [if_pos hll] at k1
        show cn l [] = k
        rw [cn_nil]; omega
      · rw [if_neg hll] at k1; omega
theorem sel_word (hls : gLens rs [] = some ls) {l : Nat} (hl : l < 4) {k : Int} (k0 : 0 ≤ k) (k1 : k < cn l (wdN rs)) :
    ∃ j : Nat, selGo (cnts rs) ls rs l rs.length (rs.length - 1) k 0 = j ∧ (wdN rs)[j]? = some l ∧ cn l ((wdN rs).take j) = k := by
  by_cases h : rs = []
  · subst h; rw [show wdN [] = [] from rfl, cn_nil] at k1; omega
  · have h0 : 0 < rs.length := List.length_pos_iff.2 h
    have e : wdN rs = (wds rs).getD (rs.length - 1) [] := by unfold wdN; rw [if_neg h]
    rw [e] at k1 ⊢
    obtain ⟨j, e1, e2, e3⟩ := selGo_word hls hl rs.length (rs.length - 1) k 0 (by omega) (by omega) k0 k1
    exact ⟨j, by omega, e2, e3⟩
end
theorem use_goG {rs : List Fac} (hwf : WF rs) (c dl : Nat → Int) (hp : ∀ (i : Nat) (r : Fac), rs[i]? = some r → r.l.size = 0 → c i = c r.a.toNat + c r.b.toNat + dl i)
    (hl : ∀ (i : Nat) (r : Fac), rs[i]? = some r → r.l.size ≠ 0 → c i = dl i) (T : Int) :
    ∀ (m : Nat) (us : List Int), m ≤ rs.length → us.length = rs.length → sumTo (fun j => us.getD j 0 * c j) m + (sumTo (fun j => us.getD j 0 * dl j) rs.length - sumTo (fun j => us.getD j 0 * dl j) m) = T →
      sumTo (fun j => (useGo rs m us).getD j 0 * dl j) rs.length = T
  | 0, us, _, _, h => by
    have e1 : sumTo (fun j => us.getD j 0 * c j) 0 = 0 := rfl
    have e2 : sumTo (fun j => us.getD j 0 * dl j) 0 = 0 := rfl
    show sumTo (fun j => us.getD j 0 * dl j) rs.length = T
    omega
  | i + 1, us, hm, hlen, h => by
    have hr : rs[i]? = some rs[i] := List.getElem?_eq_getElem (by omega)
    have e1 : sumTo (fun j => us.getD j 0 * c j) (i + 1) = sumTo (fun j => us.getD j 0 * c j) i + us.getD i 0 * c i := rfl
    have e2 : sumTo (fun j => us.getD j 0 * dl j) (i + 1) = sumTo (fun j => us.getD j 0 * dl j) i + us.getD i 0 * dl i := rfl
    show sumTo (fun j => (useGo rs i (usStep rs us i)).getD j 0 * dl j) rs.length = T
    unfold usStep
    rw [fac_getD hr]
    rcases hwf i _ hr with ⟨h0, a0, a1, b0, b1⟩ | ⟨u, _, hlu, _, _⟩
    · rw [if_pos h0]
      have hc := hp i _ hr h0
      refine use_goG hwf c dl hp hl T i _ (by omega) (by rw [usePair_len]; exact hlen) ?_
      have hat := usePair_at (us := us) (a := rs[i].a.toNat) (b := rs[i].b.toNat) (i := i) (by omega) (by omega)
      have s1 : sumTo (fun j => (usePair us rs[i].a.toNat rs[i].b.toNat i).getD j 0 * c j) i = sumTo (fun j => us.getD j 0 * c j) i + us.getD i 0 * c rs[i].a.toNat + us.getD i 0 * c rs[i].b.toNat := by
        rw [sumTo_congr (g := fun j => (us.getD j 0 * c j + (if j = rs[i].a.toNat then us.getD i 0 else 0) * c j) + (if j = rs[i].b.toNat then us.getD i 0 else 0) * c j) (fun j _ => by rw [hat, Int.add_mul, Int.add_mul]), sumTo_add, sumTo_add, sum_one _ _ _ _ (by omega), sum_one _ _ _ _ (by omega)]
      have s2 : sumTo (fun j => (usePair us rs[i].a.toNat rs[i].b.toNat i).getD j 0 * dl j) rs.length - sumTo (fun j => (usePair us rs[i].a.toNat rs[i].b.toNat i).getD j 0 * dl j) i = sumTo (fun j => us.getD j 0 * dl j) rs.length - sumTo (fun j => us.getD j 0 * dl j) i :=
        sumTo_diff (by omega) (fun j h1 h2 => by rw [hat, if_neg (by omega), if_neg (by omega)]; simp)
      have s3 : us.getD i 0 * c i = us.getD i 0 * c rs[i].a.toNat + us.getD i 0 * c rs[i].b.toNat + us.getD i 0 * dl i := by rw [hc, Int.mul_add, Int.mul_add]
      omega
    · have hz : rs[i].l.size ≠ 0 := by rw [hlu]; show (1 : Nat) ≠ 0; omega
      rw [if_neg hz]
      have z1 := hl i _ hr hz
      refine use_goG hwf c dl hp hl T i us (by omega) hlen ?_
      rw [z1] at e1
      omega
theorem use_sumG {rs : List Fac} (hwf : WF rs) (h0 : 0 < rs.length) (c dl : Nat → Int) (hp : ∀ (i : Nat) (r : Fac), rs[i]? = some r → r.l.size = 0 → c i = c r.a.toNat + c r.b.toNat + dl i)
    (hl : ∀ (i : Nat) (r : Fac), rs[i]? = some r → r.l.size ≠ 0 → c i = dl i) : sumTo (fun j => (usesOf rs).getD j 0 * dl j) rs.length = c (rs.length - 1) := by
  refine use_goG hwf c dl hp hl _ rs.length (us0 rs.length) (Nat.le_refl _) (by simp [us0]) ?_
  have e : sumTo (fun j => (us0 rs.length).getD j 0 * c j) rs.length = c (rs.length - 1) := by
    rw [sumTo_congr (g := fun j => (if j = rs.length - 1 then 1 else 0) * c j) (fun j _ => by rw [use0_at _ _ h0]), sum_one _ _ _ _ (by omega)]
    simp
  omega
/-- whether a rule is some letter -/
def lcD (rs : List Fac) (l j : Nat) : Int := if (rs.getD j default).l.size = 0 then 0 else if letN (rs.getD j default).l = l then 1 else 0
/-- the counts over the first rules -/
def lcL (rs : List Fac) (i : Nat) : List Int := (List.range 4).map fun l => sumTo (fun j => (usesOf rs).getD j 0 * lcD rs l j) i
theorem lcL_all {rs : List Fac} (hwf : WF rs) : lcL rs rs.length = (List.range 4).map fun l => cn l (wdN rs) := by
  unfold lcL
  refine List.map_congr_left fun l _ => ?_
  unfold wdN
  by_cases h : rs = []
  · subst h; rfl
  · have h0 : 0 < rs.length := List.length_pos_iff.2 h
    rw [if_neg h]
    refine use_sumG hwf h0 (fun j => cn l ((wds rs).getD j [])) (lcD rs l) (fun i r hr hz => ?_) (fun i r hr hz => ?_)
    · unfold lcD
      rw [fac_getD hr, if_pos hz, show (wds rs).getD i [] = (wds rs).getD r.a.toNat [] ++ (wds rs).getD r.b.toNat [] from full_pair [] wdF wdG hwf hr hz, cn_app]; omega
    · unfold lcD
      rw [fac_getD hr, if_neg hz, show (wds rs).getD i [] = [letN r.l] from full_let (d := []) (F := wdF) (G := wdG) hr hz, cn_cons, cn_nil]; omega
end Go.Proofs.Ytgdbpkpaacbhhaa


/-
  How often letters occur, and the length of a word: on both sides.
-/
namespace Go.Proofs.Ytgdbpkpaacbhhaa
open Go.RowKit

def ct4 (u : List Nat) : List Int := (List.range 4).map fun l => cn l u
theorem ct4_len (u : List Nat) : (ct4 u).length = 4 := rfl
theorem ct4_at (u : List Nat) {l : Nat} (h : l < 4) : (ct4 u).getD l 0 = cn l u := by
  unfold ct4
  rw [List.getD_eq_getElem?_getD, List.getElem?_map, List.getElem?_range h]; rfl
theorem lcL_len (rs : List Fac) (i : Nat) : (lcL rs i).length = 4 := rfl
theorem lcL_at (rs : List Fac) (i : Nat) {l : Nat} (h : l < 4) : (lcL rs i).getD l 0 = sumTo (fun j => (usesOf rs).getD j 0 * lcD rs l j) i := by
  unfold lcL
  rw [List.getD_eq_getElem?_getD, List.getElem?_map, List.getElem?_range h]; rfl
theorem lcL_pair {rs : List Fac} {i : Nat} {x : Fac} (hx : rs[i]? = some x) (h0 : x.l.size = 0) : lcL rs (i + 1) = lcL rs i := by
  unfold lcL
  refine List.map_congr_left fun l _ => ?_
  show sumTo _ i + (usesOf rs).getD i 0 * lcD rs l i = _
  unfold lcD
  rw [fac_getD hx, if_pos h0]; simp
theorem lcL_let {rs : List Fac} {i l : Nat} {x : Fac} (hx : rs[i]? = some x) (h0 : x.l.size ≠ 0) (hl : letN x.l = l) (h4 : l < 4) : lcL rs (i + 1) = (lcL rs i).set l ((lcL rs i).getD l 0 + (usesOf rs).getD i 0) := by
  apply List.ext_getElem?
  intro j
  have e : ∀ j, sumTo (fun k => (usesOf rs).getD k 0 * lcD rs j k) (i + 1) = sumTo (fun k => (usesOf rs).getD k 0 * lcD rs j k) i + if j = l then (usesOf rs).getD i 0 else 0 := fun j => by
    show sumTo _ i + (usesOf rs).getD i 0 * lcD rs j i = _
    unfold lcD
    rw [fac_getD hx, if_neg h0, hl]
    by_cases h : j = l
    · rw [if_pos h.symm, if_pos h]; simp
    · rw [if_neg (fun e => h e.symm), if_neg h]; simp
  rw [List.getElem?_set, lcL_at rs i h4]
  by_cases hj : l = j
  · subst hj
    rw [if_pos rfl, if_pos (by rw [lcL_len]; exact h4)]
    unfold lcL
    rw [List.getElem?_map, List.getElem?_range h4]
    simp only [Option.map_some]
    rw [e, if_pos rfl]
  · rw [if_neg hj]
    unfold lcL
    rw [List.getElem?_map, List.getElem?_map]
    by_cases h4j : j < 4
    · rw [List.getElem?_range h4j]
      simp only [Option.map_some]
      rw [e, if_neg (fun q => hj q.symm)]; simp
    · rw [List.getElem?_eq_none (by simp; omega)]; rfl
theorem lc_b {rs : List Fac} {ls : List Int} (hls : gLens rs [] = some ls) (hll : ls.length = rs.length) (h0 : 0 < rs.length) {l : Nat} (h4 : l < 4) : ∀ i, i ≤ rs.length → 0 ≤ (lcL rs i).getD l 0 ∧ (lcL rs i).getD l 0 ≤ 1000000000000000 := by
  intro i hi
  have U := uses_inv hls hll h0
  have nn : ∀ j, 0 ≤ (usesOf rs).getD j 0 * lcD rs l j := fun j => Int.mul_nonneg (U.nn j) (by unfold lcD; split <;> (try split) <;> omega)
  have mono : ∀ d i, sumTo (fun j => (usesOf rs).getD j 0 * lcD rs l j) i ≤ sumTo (fun j => (usesOf rs).getD j 0 * lcD rs l j) (i + d) := by
    intro d
    induction d with
    | zero => intro i; exact Int.le_refl _
    | succ d ih =>
      intro i
      have h1 := ih i
      have h2 : sumTo (fun j => (usesOf rs).getD j 0 * lcD rs l j) (i + (d + 1)) = sumTo (fun j => (usesOf rs).getD j 0 * lcD rs l j) (i + d) + (usesOf rs).getD (i + d) 0 * lcD rs l (i + d) := rfl
      have := nn (i + d)
      omega
  have a0 := mono i 0
  have a1 := mono (rs.length - i) i
  rw [show i + (rs.length - i) = rs.length by omega] at a1
  rw [Nat.zero_add] at a0
  have e0 : sumTo (fun j => (usesOf rs).getD j 0 * lcD rs l j) 0 = 0 := rfl
  have e1 := lcL_at rs rs.length h4
  rw [lcL_all (wf_of hls)] at e1
  have e2 : ((List.range 4).map fun l => cn l (wdN rs)).getD l 0 = cn l (wdN rs) := ct4_at (wdN rs) h4
  rw [e2] at e1
  have := cn_le l (wdN rs)
  have := lens_last_le hls h0 hll
  have := last_word hls
  rw [lcL_at rs i h4]
  omega
/-- four numbers and the code 0 -/
def Ret4 (w : World) (xs : List Int) (e : Ending) (w' : World) : Prop := ∃ b, e = .returned (.tuple #[.slice (some ⟨b, 0, none⟩) 4 4, .int .i64 0]) ∧ w.heap.size ≤ b ∧ Blk w' b 2 (intA xs) ∧ Below w.heap.size w w'
/-- letters being counted -/
structure LcW (w W : World) (A : Option Addr) (n c b5 : Nat) (A2 : Option Addr) (c2 : Nat) (us xs : List Int) : Prop where
  g : Blk W w.heap.size 26 #[.slice A n c]
  u : W.ownsRow w.heap.size 2 1 (.slice A2 n c2) n (us.flatMap intE)
  x : Blk W b5 2 (intA xs)
  e : Below w.heap.size w W
  hu : ∀ k, (Value.slice A2 n c2).ownBlock = some k → k < b5
  h5 : w.heap.size < b5
theorem LcW.next {w W W' : World} {A A2 : Option Addr} {n c b5 c2 : Nat} {us xs : List Int} (h : LcW w W A n c b5 A2 c2 us xs) (hb : Below W.heap.size W W') : LcW w W' A n c b5 A2 c2 us xs := ⟨h.g.next hb, own_next h.u hb, h.x.next hb, h.e.trans (hb.mono h.e.size), h.hu, h.h5⟩
theorem LcW.put {w W : World} {A A2 : Option Addr} {n c b5 c2 : Nat} {us xs : List Int} (h : LcW w W A n c b5 A2 c2 us xs) (l : Nat) (v : Int) : LcW w (W.setCell ⟨b5, l, none⟩ (.int .i64 v)) A n c b5 A2 c2 us (xs.set l v) := by
  have hg := gb_set W b5 l (.int .i64 v)
  have h5 := h.h5
  have hx := h.x.set_ l (.int .i64 v)
  rw [intA_set] at hx
  refine ⟨h.g.grown hg (by intro e; injection e with e; omega), h.u.kept hg ?_, hx, h.e.setCell (by show w.heap.size ≤ b5; omega) _, h.hu, h5⟩
  cases hv : (Value.slice A2 n c2).ownBlock with
  | none => exact .inl rfl
  | some q => exact .inr fun e => by have := h.hu q hv; injection e with e; omega
theorem lengthOf_any (A : Option Addr) (n c : Nat) (rs : List Fac) (w : World) (hr : Rd w w.heap.size A n 3 Fac.cells rs) (hg : (gOk rs).isSome = true) :
    Calls Try.prog 41 #[.agg #[.slice A n c]] w (Ret (.tuple #[.int .i64 ((wdN rs).length : Int), .int .i64 0]) w) := by
  obtain ⟨ls, hls, hlen, hll⟩ := big_lens hg
  have hl := hr.len
  have hn : n ≤ 400 := by omega
  have HR := Lib.hid hr
  have HG := Lib.hid hg
  have HLS := Lib.hid hls
  have HO := Lib.hid (wf_sz (wf_of hls))
  have hlast := last_word hls
  generalize hv : lastI ls = v at *
  have HV := Lib.hid hv
  rw [← hlast]
  clear hr hg hls hlen hll hl hlast hv
  go_enter Try.func41, Try.ntmps41
  go_wp2_with fail
  refine namedC fun w1 H1 => ?_
  have hb1 : Below w.heap.size w w1 := by rw [H1.out]; (repeat first | exact Below.refl _ _ | assumption | refine Below.drew ?_ | refine Below.alloc ?_ (by first | exact Nat.le_refl _ | (simp; done) | omega | (simp; omega)) _ | refine Below.setCell ?_ (by first | exact Nat.le_refl _ | (simp; done) | omega | (simp; omega)) _)
  have BG := Lib.hid (show Blk w1 w.heap.size 26 #[.slice A n c] by rw [H1.out]; exact Blk.new _ _ _)
  clear H1
  refine (l02Ok_any w.heap.size A n c rs w1 BG.out.lt (BG.out.cell 0) (by omega) (HR.out.next hb1) HO.out true HG.out).mono ?_
  rintro e w3 ⟨rfl, hb3⟩
  have b3 := Lib.hid (hb1.trans (hb3.mono hb1.size))
  have BG3 := Lib.hid (BG.out.next hb3)
  clear BG hb1 hb3
  go_wp2_with fail
  refine (l02Length_any w.heap.size A n c rs w3 BG3.out.lt (BG3.out.cell 0) (by omega) (HR.out.next b3.out) HO.out ls HLS.out).mono ?_
  rintro e w4 ⟨rfl, hb4⟩
  rw [HV.out]
  go_wp2_with fail
  go_ret2
  exact ⟨rfl, b3.out.trans (hb4.mono b3.out.size)⟩
theorem f6length_any (A : Option Addr) (n c : Nat) (rs : List Fac) (w : World) (hr : Rd w w.heap.size A n 3 Fac.cells rs) (hg : (gOk rs).isSome = true) :
    Calls Try.prog 13 #[.agg #[.slice A n c]] w (Ret (.int .i64 ((wdN rs).length : Int)) w) := by
  have HR := Lib.hid hr; clear hr
  have HG := Lib.hid hg; clear hg
  generalize hv : ((wdN rs).length : Int) = v at *
  have HV := Lib.hid hv; clear hv
  go_enter Try.func13, Try.ntmps13
  go_wp2_with fail
  refine (lengthOf_any A n c rs _ (HR.out.next ((Below.refl _ _).alloc (Nat.le_refl _) _)) HG.out).mono ?_
  rintro e w1 ⟨rfl, hb1⟩
  rw [HV.out]
  go_wp2_with fail
  go_ret
  exact ⟨rfl, ((Below.refl _ _).alloc (Nat.le_refl _) _).trans (hb1.mono (by simp))⟩
end Go.Proofs.Ytgdbpkpaacbhhaa


/-
  How a law's statement follows from its walk: the arguments opened to plain data; behind the walk they read as they did.
-/
namespace Go.Proofs.Ytgdbpkpaacbhhaa
open Go.ChangeShapes Go.WideShapes Go.ChangeAt Go.RowKit Go.Deep

theorem own : ownKnob Try.prog.godebug = none := by kernel_rfl
theorem laidOut : laidOutB Try.prog = true := by kernel_rfl
theorem mapsRowed' : mapsRowed Try.prog = true := by kernel_rfl
theorem heard' : Try.prog.stopsHeard = true := by kernel_rfl
theorem mayEnter' : Try.prog.mayEnter = true := by kernel_rfl
theorem lifts' : (Rows.fnPrintsRow.lifted == Try.prog.liftsFinal) = true := by kernel_rfl
theorem make' : (Try.prog.make == some Rows.fnPrintsRow.make) = true := by kernel_rfl
theorem plainKeys' : (Rows.fnPrintsRow.plainKeys == Try.prog.plainKeys) = true := by kernel_rfl
/-- a row's closed facts, one by one: so that the kernel gives its memory back behind each -/
theorem joined_mk {P : Program} {f : FuncId} {fn : Func} {s : ChangeSpec} {c : OpenClaim} (h1 : c.wf (OpenSpec.ofChange s) = true) (h2 : laidOutB P = true) (h3 : mapsRowed P = true)
    (h4 : (fn.params.all (P.readableRec ·) && namedTie P c.named s.vars && (c.stops == []) && (P.stops == []) && (c.knobs == []) && (P.stopKnobs == [])) = true)
    (h5 : (c.inPlace == P.inPlace f) = true) (h6 : (c.unfollowed == P.unfollowed f) = true) (h7 : (c.recurses == P.recurses f) = true) (h8 : (c.named == P.varsNamed f) = true)
    (h9 : ((c.maps == (fn.params.toList ++ s.plain.varTypes P).any (P.mapsRec ·)) && (c.ifaces == (fn.params.toList ++ s.plain.varTypes P).any (P.ifacesRec ·)) && (c.mapsOut == P.mapsAmong fn.resultTypes.toList) &&
      (c.loops == (fn.params.toList ++ s.plain.varTypes P).any (P.loopsFrom ·)) && (c.wideKeys == (fn.params.toList ++ s.plain.varTypes P ++ fn.resultTypes.toList).any (P.wideKeysFrom ·)) &&
      s.vars.all (P.varReadable ·) && fn.resultTypes.all (fun t => P.readableRec t && decide (t < P.types.size)) && (c.ifacesOut == fn.resultTypes.toList.any (P.ifacesRec ·)) && (c.loopsOut == fn.resultTypes.toList.any (P.loopsFrom ·))) = true)
    (h10 : (c.plainKeys == P.plainKeys) = true) (h11 : c.shortTexts.isNone = true) (h12 : P.stopsHeard = true) (h13 : P.mayEnter = true) (h14 : (c.lifted == P.liftsFinal) = true) (h15 : (P.make == some c.make) = true)
    (h16 : ((c.kinds == (if c.domain.isEmpty then [] else fn.params.toList.map fun t => match P.underlying t with | some (.int k) => some k | _ => none)) && (c.pinned == c.pinnedBy) &&
      (c.veiled == (fn.params.toList ++ s.plain.varTypes P ++ fn.resultTypes.toList).any (P.veiledRec ·)) && c.veiledFits P fn.params.toList (fn.params.toList ++ s.plain.varTypes P ++ fn.resultTypes.toList)) = true) :
    joinedFacts P f fn s c = true := by
  simp only [Bool.and_eq_true] at h4 h9 h16
  simp only [joinedFacts, Bool.and_eq_true]
  simp only [h1, h2, h3, h4, h5, h6, h7, h8, h9, h10, h11, h12, h13, h14, h15, h16, and_self]
  exact ⟨⟨⟨⟨trivial, h16.1.1.1⟩, trivial⟩, trivial⟩, trivial⟩

section
variable {H : Type} {enc : TypeId × Value → H} {P : Program}
/-- the arguments read as they did, where nothing old has turned -/
theorem args_below (hl : laidOutB P = true) {W W' : World} (hb : Below W.heap.size W W') : ∀ {ts : List TypeId} {vs : List Value} {ds : List (DataW H)} {ps : List MemPlace},
    (∀ t ∈ ts, P.readableRec t = true ∧ t < P.types.size) → DataW.TrodAll enc P W 0 (fun _ => true) true ts vs ds ps → (∀ p ∈ ps, p.block < W.heap.size) →
    ∀ sp : Nat → Bool, (∀ p ∈ ps, sp p.block = true) → DataW.TrodAll enc P W' 0 sp true ts vs ds ps
  | [], [], [], _, _, h, _, _, _ => h
  | t :: ts, v :: vs, d :: ds, ps, ht, h, hlt, sp, hsp => by
    obtain ⟨p, q, h1, h2, rfl⟩ := h
    obtain ⟨hr, hrow⟩ := ht t (by simp)
    exact ⟨p, q, WideElems.Trod_stays hl hr hrow h1 (fun x hx => hb.same (hlt x (by simp [hx]))) (fun x hx => hsp x (by simp [hx])),
      args_below hl hb (fun t' h' => ht t' (by simp [h'])) h2 (fun x hx => hlt x (by simp [hx])) sp (fun x hx => hsp x (by simp [hx])), rfl⟩
  | [], _ :: _, _, _, _, h, _, _, _ => by cases h
  | [], [], _ :: _, _, _, h, _, _, _ => by cases h
  | _ :: _, [], _, _, _, h, _, _, _ => by cases h
  | _ :: _, _ :: _, [], _, _, h, _, _, _ => by cases h

/-- a law's last step: it has returned true, and nothing old has turned -/
theorem law_post {f : Func} {s : ChangeSpec} {W W' : World} {args : Array Value} {ds gs : List (DataW H)} {before : List MemPlace} (hl : laidOutB P = true)
    (hW : DataW.Whole enc P f.params.toList s.vars false W args.toList ds gs before) (hv : s.vars = []) (b : TypeId) (hbool : P.underlying b = some .bool) (hrt : f.resultTypes = #[b])
    (hts : ∀ t ∈ f.params.toList, P.readableRec t = true ∧ t < P.types.size)
    (hsp : s.fn H (ds ++ gs) = { results := [.lit (.bool true)], args := ds }) (hb : Below W.heap.size W W') : s.post enc P f false true false false W args (.bool true) W' := by
  have hW0 := hW
  have hlt : ∀ p ∈ before, p.block < W.heap.size := fun p hp => hW.lt p hp
  obtain ⟨p, q, hA, hV, hpq, hz, hn⟩ := hW
  rw [hv] at hV
  obtain ⟨hg, hq⟩ := trodVars_none hV
  subst hg hq
  rw [List.append_nil] at hpq
  subst hpq
  have hargs := args_below hl hb hts hA hlt
  refine ⟨ds, [], before, [], before, [], hW0, ?_, ?_, ?_, World.keptBut_mono (fun p hp => ⟨hp, Or.inr (Or.inl hp)⟩) (hb.frame (· ∈ before)), fun h => by cases h⟩
  · rw [hsp, hrt]
    exact trodAll_mk1 (shut_bool hbool _)
  · rw [hsp]
    exact hargs _ (fun p hp => by simpa using hlt p hp)
  · rw [hsp, hv]
    exact rfl
end

def I64 (x : Int) : Prop := -9223372036854775808 ≤ x ∧ x ≤ 9223372036854775807
def Fac.ok (f : Fac) : Prop := f.l.size ≤ maxLen ∧ I64 f.a ∧ I64 f.b

theorem cell_spot {w : World} {a : Addr} {v : Value} (h : w.cell? a = some v) : a = ⟨a.block, a.off, none⟩ := by
  obtain ⟨b, o, s⟩ := a
  cases s with
  | none => rfl
  | some x =>
    exfalso
    unfold World.cell? at h
    split at h <;> simp at h

section
variable {H : Type} {enc : TypeId × Value → H} {P : Program} {w : World} {base : Nat} {spare : Nat → Bool} {held : Bool}
/-- a list of structs of a string and two numbers, as it reads -/
theorem facs_of_trod {t e : TypeId} {f0 f1 f2 : Field} {fuel : Nat} {cs0 : List Value} {x0 : DataW H × List MemPlace} (ht : P.underlying t = some (.slice e)) (he : P.underlying e = some (.struct #[f0, f1, f2]))
    (hone : oneCellFields P #[f0, f1, f2] = true) (hC : P.cellsOf e = 3) (t0 : P.underlying f0.type = some .string) (t1 : P.underlying f1.type = some (.int .i64)) (t2 : P.underlying f2.type = some (.int .i64))
    (hf : DataW.trod enc P w base spare held fuel t cs0 = some x0) :
    ∃ A n c fs, cs0 = [.slice A n c] ∧ n ≤ maxLen ∧ Rd w w.heap.size A n 3 Fac.cells fs ∧ ∀ f ∈ fs, Fac.ok f := by
  rcases open_slice ht hf with ⟨hcs, hx⟩ | ⟨a, len, cap, m, n, D, Pl, hcs, _, hl, hm, hmm, hx, hi⟩
  · exact ⟨none, 0, 0, [], hcs, by omega, Rd.none_, by simp⟩
  · subst hcs
    have hlm : len ≤ m := by rw [hmm]; split <;> omega
    have key : ∀ i, i < len → ∃ f : Fac, Fac.ok f ∧ w.cell? (a.add (i * 3)) = some (.string f.l) ∧ w.cell? ((a.add (i * 3)).add 1) = some (.int .i64 f.a) ∧ w.cell? ((a.add (i * 3)).add 2) = some (.int .i64 f.b) := by
      intro i hil
      obtain ⟨cs', hc, ht'⟩ := hi i (by omega)
      rw [hC] at hc
      obtain ⟨ys, n', hn', hy, hlen, hyl, hfld⟩ := DataW.trod_struct he ht'
      obtain ⟨_, hcl, hat⟩ := World.cells?_some hc
      obtain ⟨o0, k0⟩ := hone_of hone 0 f0 rfl
      obtain ⟨o1, k1⟩ := hone_of hone 1 f1 rfl
      obtain ⟨o2, k2⟩ := hone_of hone 2 f2 rfl
      rw [hC] at hlen
      match cs', hlen with
      | [x0, x1, x2], _ =>
        have q0 := hfld 0 f0 rfl
        have q1 := hfld 1 f1 rfl
        have q2 := hfld 2 f2 rfl
        match ys, hyl with
        | [y0, y1, y2], _ =>
          simp only [o0, k0, o1, k1, o2, k2] at q0 q1 q2
          obtain ⟨s, e0, _, hs⟩ := DataW.trod_string t0 (x := y0) (by simpa using q0)
          obtain ⟨z1, e1, _, w1⟩ := DataW.trod_int t1 (x := y1) (by simpa using q1)
          obtain ⟨z2, e2, _, w2⟩ := DataW.trod_int t2 (x := y2) (by simpa using q2)
          simp at e0 e1 e2
          subst e0 e1 e2
          refine ⟨⟨s, z1, z2⟩, ⟨hs, ?_, ?_⟩, ?_, ?_, ?_⟩
          · simpa [I64, Lit.wf, IntKind.min, IntKind.max, IntKind.signed, IntKind.bits] using w1
          · simpa [I64, Lit.wf, IntKind.min, IntKind.max, IntKind.signed, IntKind.bits] using w2
          · simpa [Addr.add] using hat 0 (by omega)
          · simpa using hat 1 (by omega)
          · simpa using hat 2 (by omega)
    obtain ⟨F, hF⟩ := choose_lt (α := Fac) (p := fun i f => Fac.ok f ∧ w.cell? (a.add (i * 3)) = some (.string f.l) ∧ w.cell? ((a.add (i * 3)).add 1) = some (.int .i64 f.a) ∧ w.cell? ((a.add (i * 3)).add 2) = some (.int .i64 f.b)) key
    refine ⟨some a, len, cap, (List.range len).map F, rfl, by omega, ⟨by simp, fun hp => ?_⟩, ?_⟩
    · have h0 := (hF 0 hp).2.1
      have ha : a = ⟨a.block, a.off, none⟩ := by
        have : a.add (0 * 3) = a := by simp [Addr.add]
        rw [this] at h0
        exact cell_spot h0
      refine ⟨a.block, a.off, by rw [← ha], ?_, ?_⟩
      · have := World.block_lt_of_cell? w _ h0
        simpa [Addr.add] using this
      · intro k x hx j u hu
        have hk : k < len := by
          have := (List.getElem?_eq_some_iff.1 hx).1
          simpa using this
        obtain rfl : F k = x := by simpa [hk] using hx
        obtain ⟨_, g0, g1, g2⟩ := hF k hk
        rw [ha] at g0 g1 g2
        simp only [Addr.add_lit] at g0 g1 g2
        rcases j with _ | _ | _ | j
        · simp [Fac.cells] at hu; subst hu; simpa using g0
        · simp [Fac.cells] at hu; subst hu; simpa using g1
        · simp [Fac.cells] at hu; subst hu; simpa using g2
        · simp [Fac.cells] at hu
    · intro f hf
      simp only [List.mem_map, List.mem_range] at hf
      obtain ⟨i, hil, rfl⟩ := hf
      exact (hF i hil).1
/-- an argument that is a list of structs of a string and two numbers -/
theorem open_facs {t e : TypeId} {f0 f1 f2 : Field} {r : Reach} {b0 : Nat} {v : Value} {d : DataW H} {p : List MemPlace} (ht : P.underlying t = some (.slice e)) (he : P.underlying e = some (.struct #[f0, f1, f2]))
    (hone : oneCellFields P #[f0, f1, f2] = true) (hC : P.cellsOf e = 3) (t0 : P.underlying f0.type = some .string) (t1 : P.underlying f1.type = some (.int .i64)) (t2 : P.underlying f2.type = some (.int .i64))
    (hv : Value.okWide P w r b0 t v) (h : DataW.Trod enc P w base spare held t v d p) :
    ∃ A n c fs, v = .slice A n c ∧ n ≤ maxLen ∧ Rd w w.heap.size A n 3 Fac.cells fs ∧ ∀ f ∈ fs, Fac.ok f := by
  obtain ⟨a0, len, cap, rfl⟩ := okWide_slice ht hv
  obtain ⟨fuel, hf⟩ := h
  simp only [Value.cells] at hf
  obtain ⟨A, n, c, fs, hcs, h2⟩ := facs_of_trod ht he hone hC t0 t1 t2 hf
  exact ⟨A, n, c, fs, by simpa using hcs, h2⟩
/-- an argument that is a grammar: a struct of one list -/
theorem open_grammar {g e : TypeId} {f f0 f1 f2 : Field} {r : Reach} {b0 : Nat} {v : Value} {d : DataW H} {p : List MemPlace} (hg : P.underlying g = some (.struct #[f])) (hone1 : oneCellFields P #[f] = true) (hC1 : P.cellsOf g = 1)
    (ht : P.underlying f.type = some (.slice e)) (he : P.underlying e = some (.struct #[f0, f1, f2]))
    (hone : oneCellFields P #[f0, f1, f2] = true) (hC : P.cellsOf e = 3) (t0 : P.underlying f0.type = some .string) (t1 : P.underlying f1.type = some (.int .i64)) (t2 : P.underlying f2.type = some (.int .i64))
    (hv : Value.okWide P w r b0 g v) (h : DataW.Trod enc P w base spare held g v d p) :
    ∃ A n c fs, v = .agg #[.slice A n c] ∧ n ≤ maxLen ∧ Rd w w.heap.size A n 3 Fac.cells fs ∧ ∀ f ∈ fs, Fac.ok f := by
  obtain ⟨cs, rfl, hsz⟩ := okWide_struct hg hv
  obtain ⟨l⟩ := cs
  match l, hsz.trans hC1 with
  | [x0], _ =>
    obtain ⟨fuel, hf⟩ := h
    obtain ⟨ys, n', hn', hy, hlen, hyl, hfld⟩ := DataW.trod_struct hg hf
    obtain ⟨o0, k0⟩ := hone_of hone1 0 f rfl
    match ys, hyl with
    | [y0], _ =>
      have q0 := hfld 0 f rfl
      simp only [o0, k0] at q0
      have q1 : DataW.trod enc P w base spare held n' f.type [x0] = some y0 := by simpa [Value.cells] using q0
      obtain ⟨A, n, c, fs, hcs, h2⟩ := facs_of_trod ht he hone hC t0 t1 t2 q1
      obtain rfl : x0 = .slice A n c := by simpa using hcs
      exact ⟨A, n, c, fs, rfl, h2⟩
/-- an argument that is a list of numbers -/
theorem open_nums {t e : TypeId} {k : IntKind} {r : Reach} {b0 : Nat} {v : Value} {d : DataW H} {p : List MemPlace} (ht : P.underlying t = some (.slice e)) (he : P.underlying e = some (.int k)) (hC : P.cellsOf e = 1)
    (hv : Value.okWide P w r b0 t v) (h : DataW.Trod enc P w base spare held t v d p) :
    ∃ A n c zs, v = .slice A n c ∧ n ≤ maxLen ∧ Rd w w.heap.size A n 1 (fun z => [.int k z]) zs ∧ ∀ z ∈ zs, (Lit.int k z).wf = true := by
  obtain ⟨a0, len0, cap0, rfl⟩ := okWide_slice ht hv
  obtain ⟨fuel, hf⟩ := h
  simp only [Value.cells] at hf
  rcases open_ints ht he hC hf with ⟨hcs, hx⟩ | ⟨a, len, cap, zs, hcs, _, hl, hm, hz, hx, hi, hw⟩
  · exact ⟨none, 0, 0, [], by simpa using hcs, by omega, Rd.none_, by simp⟩
  · have hlz : len ≤ zs.length := by rw [hz]; split <;> omega
    refine ⟨some a, len, cap, zs.take len, by simpa using hcs, by omega, ⟨by simp; omega, fun hp => ?_⟩, fun z h2 => hw z (List.mem_of_mem_take h2)⟩
    have h0 := hi 0 (by omega)
    have ha : a = ⟨a.block, a.off, none⟩ := by
      have : a.add 0 = a := by simp [Addr.add]
      rw [this] at h0
      exact cell_spot h0
    refine ⟨a.block, a.off, by rw [← ha], ?_, fun i x hx j u hu => ?_⟩
    · have := World.block_lt_of_cell? w _ h0
      simpa [Addr.add] using this
    · have hil : i < len := by have := (List.getElem?_eq_some_iff.1 hx).1; simp at this; omega
      rw [List.getElem?_take_of_lt hil] at hx
      have g0 := hi i (by omega)
      rw [ha, Addr.add_lit, List.getD_eq_getElem?_getD, hx] at g0
      rcases j with _ | j
      · simp at hu; subst hu; simpa using g0
      · simp at hu
theorem open_bytes {t e : TypeId} {r : Reach} {b0 : Nat} {v : Value} {d : DataW H} {p : List MemPlace} (ht : P.underlying t = some (.slice e)) (he : P.underlying e = some (.int .u8)) (hC : P.cellsOf e = 1)
    (hv : Value.okWide P w r b0 t v) (h : DataW.Trod enc P w base spare held t v d p) :
    ∃ A n c zs, v = .slice A n c ∧ n ≤ maxLen ∧ Rd w w.heap.size A n 1 (fun z => [.int .u8 z]) zs ∧ ∀ z ∈ zs, 0 ≤ z ∧ z < 256 := by
  obtain ⟨A, n, c, zs, h1, h2, h3, h4⟩ := open_nums ht he hC hv h
  refine ⟨A, n, c, zs, h1, h2, h3, fun z hz => ?_⟩
  have := h4 z hz
  simp [Lit.wf, IntKind.min, IntKind.max, IntKind.signed, IntKind.bits] at this
  omega
theorem open_i64s {t e : TypeId} {r : Reach} {b0 : Nat} {v : Value} {d : DataW H} {p : List MemPlace} (ht : P.underlying t = some (.slice e)) (he : P.underlying e = some (.int .i64)) (hC : P.cellsOf e = 1)
    (hv : Value.okWide P w r b0 t v) (h : DataW.Trod enc P w base spare held t v d p) :
    ∃ A n c zs, v = .slice A n c ∧ n ≤ maxLen ∧ Rd w w.heap.size A n 1 (fun z => [.int .i64 z]) zs ∧ ∀ z ∈ zs, I64 z := by
  obtain ⟨A, n, c, zs, h1, h2, h3, h4⟩ := open_nums ht he hC hv h
  refine ⟨A, n, c, zs, h1, h2, h3, fun z hz => ?_⟩
  simpa [I64, Lit.wf, IntKind.min, IntKind.max, IntKind.signed, IntKind.bits] using h4 z hz
theorem open_i64 {t : TypeId} {r : Reach} {b0 : Nat} {v : Value} {d : DataW H} {p : List MemPlace} (ht : P.underlying t = some (.int .i64)) (hv : Value.okWide P w r b0 t v) (h : DataW.Trod enc P w base spare held t v d p) :
    ∃ z, v = .int .i64 z ∧ d = .lit (.int .i64 z) ∧ p = [] ∧ I64 z := by
  obtain ⟨z, h1, h2, h3, h4⟩ := Go.ChangeShapes.open_int ht hv h
  exact ⟨z, h1, h2, h3, by simpa [I64, Lit.wf, IntKind.min, IntKind.max, IntKind.signed, IntKind.bits] using h4⟩
/-- an argument that is a list of texts -/
theorem open_strs {t e : TypeId} {r : Reach} {b0 : Nat} {v : Value} {d : DataW H} {p : List MemPlace} (ht : P.underlying t = some (.slice e)) (he : P.underlying e = some .string) (hC : P.cellsOf e = 1)
    (hv : Value.okWide P w r b0 t v) (h : DataW.Trod enc P w base spare held t v d p) :
    ∃ A n c ss, v = .slice A n c ∧ n ≤ maxLen ∧ Rd w w.heap.size A n 1 (fun s => [.string s]) ss ∧ ∀ s ∈ ss, s.size ≤ maxLen := by
  obtain ⟨a0, len0, cap0, rfl⟩ := okWide_slice ht hv
  obtain ⟨fuel, hf⟩ := h
  simp only [Value.cells] at hf
  rcases open_strings ht he hC hf with ⟨hcs, hx⟩ | ⟨a, len, cap, zs, hcs, _, hl, hm, hz, hx, hi, hw⟩
  · exact ⟨none, 0, 0, [], by simpa using hcs, by omega, Rd.none_, by simp⟩
  · have hlz : len ≤ zs.length := by rw [hz]; split <;> omega
    refine ⟨some a, len, cap, zs.take len, by simpa using hcs, by omega, ⟨by simp; omega, fun hp => ?_⟩, fun z h2 => hw z (List.mem_of_mem_take h2)⟩
    have h0 := hi 0 (by omega)
    have ha : a = ⟨a.block, a.off, none⟩ := by
      have : a.add 0 = a := by simp [Addr.add]
      rw [this] at h0
      exact cell_spot h0
    refine ⟨a.block, a.off, by rw [← ha], ?_, fun i x hx j u hu => ?_⟩
    · have := World.block_lt_of_cell? w _ h0
      simpa [Addr.add] using this
    · have hil : i < len := by have := (List.getElem?_eq_some_iff.1 hx).1; simp at this; omega
      rw [List.getElem?_take_of_lt hil] at hx
      have g0 := hi i (by omega)
      rw [ha, Addr.add_lit, List.getD_eq_getElem?_getD, hx] at g0
      rcases j with _ | j
      · simp at hu; subst hu; simpa using g0
      · simp at hu
end
end Go.Proofs.Ytgdbpkpaacbhhaa
