/-
  How often letters come behind letters: the table, and what makes it.
-/
import Derived.Test.YtlokofafojepdaaUseI
import Derived.Test.YtlokofafojepdaaCens
import Derived.Test.YtlokofafojepdaaFoldE
namespace Go.Proofs.Ytlokofafojepdaa
open Go.RowKit

/-- one fold told by another one -/
theorem full_map {α β : Type} (d : α) (F : Nat → α) (G : α → α → Fac → α) (d' : β) (F' : Nat → β) (G' : β → β → Fac → β) (h : α → β) {rs : List Fac} (hwf : WF rs) (hF : ∀ l, h (F l) = F' l) (hG : ∀ a b r, h (G a b r) = G' (h a) (h b) r) :
    ∀ k, k < rs.length → h ((full d F G rs).getD k d) = (full d' F' G' rs).getD k d' := by
  intro k
  induction k using Nat.strongRecOn with
  | ind k ih =>
    intro hk
    have gx : rs[k]? = some (rs[k]'(by omega)) := List.getElem?_eq_getElem _
    rcases hwf k _ gx with ⟨h0, ha0, ha1, hb0, hb1⟩ | ⟨c, hc, hl, _⟩
    · rw [full_pair d F G hwf gx h0, full_pair d' F' G' hwf gx h0, hG, ih _ (by omega) (by omega), ih _ (by omega) (by omega)]
    · have h0 : (rs[k]'(by omega)).l.size ≠ 0 := by rw [hl]; show (1 : Nat) ≠ 0; omega
      rw [full_let d F G gx h0, full_let d' F' G' gx h0, hF]
def edF (l : Nat) : Int := (l : Int)
def edGf (a _ : Int) (_ : Fac) : Int := a
def edGl (_ b : Int) (_ : Fac) : Int := b
/-- the number of the first letter, of the last letter -/
abbrev edf (rs : List Fac) : List Int := full 0 edF edGf rs
abbrev edl (rs : List Fac) : List Int := full 0 edF edGl rs
theorem ed_b {G : Int → Int → Fac → Int} (hG : ∀ a b r, G a b r = a ∨ G a b r = b) {rs : List Fac} (hwf : WF rs) {k : Nat} (hk : k < rs.length) : 0 ≤ (full 0 edF G rs).getD k 0 ∧ (full 0 edF G rs).getD k 0 < 4 := by
  refine full_ind 0 edF G hwf (fun _ x => 0 ≤ x ∧ x < 4) (fun k r hr h => ?_) (fun k r a b hr h0 h1 h2 h3 h4 ha hb => ?_) k hk
  · have := letN_lt h
    show 0 ≤ ((letN r.l : Nat) : Int) ∧ ((letN r.l : Nat) : Int) < 4
    omega
  · rcases hG a b r with h | h
    · show 0 ≤ G a b r ∧ G a b r < 4
      rw [h]; exact ha
    · show 0 ≤ G a b r ∧ G a b r < 4
      rw [h]; exact hb
theorem edf_b {rs : List Fac} (hwf : WF rs) {k : Nat} (hk : k < rs.length) : 0 ≤ (edf rs).getD k 0 ∧ (edf rs).getD k 0 < 4 := ed_b (fun _ _ _ => .inl rfl) hwf hk
theorem edl_b {rs : List Fac} (hwf : WF rs) {k : Nat} (hk : k < rs.length) : 0 ≤ (edl rs).getD k 0 ∧ (edl rs).getD k 0 < 4 := ed_b (fun _ _ _ => .inr rfl) hwf hk

def Q4.plus (q : Q4) (l : Nat) (v : Int) : Q4 := match l with
  | 0 => ⟨q.a + v, q.b, q.c, q.d⟩
  | 1 => ⟨q.a, q.b + v, q.c, q.d⟩
  | 2 => ⟨q.a, q.b, q.c + v, q.d⟩
  | _ => ⟨q.a, q.b, q.c, q.d + v⟩
def Q4.sum (q : Q4) : Int := q.a + q.b + q.c + q.d
theorem Q4.plus_sum (q : Q4) (l : Nat) (v : Int) : (q.plus l v).sum = q.sum + v := by
  match l with
  | 0 => simp [Q4.plus, Q4.sum]; omega
  | 1 => simp [Q4.plus, Q4.sum]; omega
  | 2 => simp [Q4.plus, Q4.sum]; omega
  | _ + 3 => simp [Q4.plus, Q4.sum]; omega
theorem Q4.plus_set (q : Q4) {l : Nat} (h : l < 4) (v : Int) : ((encQ4 q).toArray).setIfInBounds l (.int .i64 (q.at_ l + v)) = (encQ4 (q.plus l v)).toArray := by
  match l, h with
  | 0, _ => rfl
  | 1, _ => rfl
  | 2, _ => rfl
  | 3, _ => rfl
def Q4.bd (q : Q4) (m : Int) : Prop := ∀ j, 0 ≤ q.at_ j ∧ q.at_ j ≤ m
theorem Q4.plus_bd {q : Q4} {m v : Int} (h : q.bd m) (l : Nat) (h0 : 0 ≤ v) : (q.plus l v).bd (m + v) := by
  intro j
  have h1 : 0 ≤ q.a ∧ q.a ≤ m := h 0
  have h2 : 0 ≤ q.b ∧ q.b ≤ m := h 1
  have h3 : 0 ≤ q.c ∧ q.c ≤ m := h 2
  have h4 : 0 ≤ q.d ∧ q.d ≤ m := h 3
  match l with
  | 0 => match j with
    | 0 => show 0 ≤ q.a + v ∧ q.a + v ≤ m + v; omega
    | 1 => show 0 ≤ q.b ∧ q.b ≤ m + v; omega
    | 2 => show 0 ≤ q.c ∧ q.c ≤ m + v; omega
    | _ + 3 => show 0 ≤ q.d ∧ q.d ≤ m + v; omega
  | 1 => match j with
    | 0 => show 0 ≤ q.a ∧ q.a ≤ m + v; omega
    | 1 => show 0 ≤ q.b + v ∧ q.b + v ≤ m + v; omega
    | 2 => show 0 ≤ q.c ∧ q.c ≤ m + v; omega
    | _ + 3 => show 0 ≤ q.d ∧ q.d ≤ m + v; omega
  | 2 => match j with
    | 0 => show 0 ≤ q.a ∧ q.a ≤ m + v; omega
    | 1 => show 0 ≤ q.b ∧ q.b ≤ m + v; omega
    | 2 => show 0 ≤ q.c + v ∧ q.c + v ≤ m + v; omega
    | _ + 3 => show 0 ≤ q.d ∧ q.d ≤ m + v; omega
  | _ + 3 => match j with
    | 0 => show 0 ≤ q.a ∧ q.a ≤ m + v; omega
    | 1 => show 0 ≤ q.b ∧ q.b ≤ m + v; omega
    | 2 => show 0 ≤ q.c ∧ q.c ≤ m + v; omega
    | _ + 3 => show 0 ≤ q.d + v ∧ q.d + v ≤ m + v; omega
def addT (qs : List Q4) (k l : Nat) (v : Int) : List Q4 := qs.set k ((qs.getD k Q4.nil).plus l v)
def pcT (rs : List Fac) : Nat → List Q4
  | 0 => [Q4.nil, Q4.nil, Q4.nil, Q4.nil]
  | i + 1 => if (rs.getD i default).l.size = 0 then addT (pcT rs i) ((edl rs).getD (rs.getD i default).a.toNat 0).toNat ((edf rs).getD (rs.getD i default).b.toNat 0).toNat ((usesOf rs).getD i 0) else pcT rs i
/-- how often each letter comes right behind each one -/
abbrev pcAll (rs : List Fac) : List Q4 := pcT rs rs.length
theorem pcT_len (rs : List Fac) : ∀ i, (pcT rs i).length = 4
  | 0 => rfl
  | i + 1 => by
    unfold pcT
    split
    · unfold addT; rw [List.length_set]; exact pcT_len rs i
    · exact pcT_len rs i
theorem pcT_pair {rs : List Fac} {i : Nat} {r : Fac} (h : rs[i]? = some r) (h0 : r.l.size = 0) : pcT rs (i + 1) = addT (pcT rs i) ((edl rs).getD r.a.toNat 0).toNat ((edf rs).getD r.b.toNat 0).toNat ((usesOf rs).getD i 0) := by
  show (if (rs.getD i default).l.size = 0 then _ else _) = _
  rw [fac_getD h, if_pos h0]
theorem pcT_let {rs : List Fac} {i : Nat} {r : Fac} (h : rs[i]? = some r) (h0 : r.l.size ≠ 0) : pcT rs (i + 1) = pcT rs i := by
  show (if (rs.getD i default).l.size = 0 then _ else _) = _
  rw [fac_getD h, if_neg h0]
theorem qgetD_set (qs : List Q4) (k j : Nat) (q : Q4) (hk : k < qs.length) : (qs.set k q).getD j Q4.nil = if j = k then q else qs.getD j Q4.nil := by
  rw [List.getD_eq_getElem?_getD, List.getD_eq_getElem?_getD, List.getElem?_set]
  by_cases h : k = j
  · subst h; simp [hk]
  · rw [if_neg h, if_neg (fun e => h e.symm)]
theorem pcT_bd {rs : List Fac} {ls : List Int} (hls : gLens rs [] = some ls) (hll : ls.length = rs.length) : ∀ i, i ≤ rs.length → ∀ k, ((pcT rs i).getD k Q4.nil).bd (1000000000000000 * i)
  | 0, _, k => by
    have : (pcT rs 0).getD k Q4.nil = Q4.nil := by
      match k with
      | 0 => rfl
      | 1 => rfl
      | 2 => rfl
      | 3 => rfl
      | _ + 4 => rfl
    rw [this]
    intro j
    match j with
    | 0 => exact ⟨Int.le_refl _, by simp [Q4.at_, Q4.nil]⟩
    | 1 => exact ⟨Int.le_refl _, by simp [Q4.at_, Q4.nil]⟩
    | 2 => exact ⟨Int.le_refl _, by simp [Q4.at_, Q4.nil]⟩
    | _ + 3 => exact ⟨Int.le_refl _, by simp [Q4.at_, Q4.nil]⟩
  | i + 1, hi, k => by
    have ih := pcT_bd hls hll i (by omega)
    have U := uses_inv hls hll (by omega)
    have u1 := U.nn i
    have u2 := U.bd i
    have up : ∀ {q : Q4} {m m' : Int}, q.bd m → m ≤ m' → q.bd m' := fun h h2 j => by have := h j; omega
    unfold pcT
    split
    · unfold addT
      by_cases hk : ((edl rs).getD (rs.getD i default).a.toNat 0).toNat < 4
      · rw [qgetD_set _ _ _ _ (by rw [pcT_len]; exact hk)]
        split
        · exact up (Q4.plus_bd (ih _) _ u1) (by omega)
        · exact up (ih k) (by omega)
      · rw [List.set_eq_of_length_le (by rw [pcT_len]; omega)]
        exact up (ih k) (by omega)
    · exact up (ih k) (by omega)
def totT (qs : List Q4) : Int := ((qs.getD 0 Q4.nil).sum + (qs.getD 1 Q4.nil).sum) + ((qs.getD 2 Q4.nil).sum + (qs.getD 3 Q4.nil).sum)
theorem totT_add (qs : List Q4) (hq : qs.length = 4) {k : Nat} (hk : k < 4) (l : Nat) (v : Int) : totT (addT qs k l v) = totT qs + v := by
  unfold totT addT
  rw [qgetD_set _ _ _ _ (by omega), qgetD_set _ _ _ _ (by omega), qgetD_set _ _ _ _ (by omega), qgetD_set _ _ _ _ (by omega)]
  match k, hk with
  | 0, _ => simp [Q4.plus_sum]; omega
  | 1, _ => simp [Q4.plus_sum]; omega
  | 2, _ => simp [Q4.plus_sum]; omega
  | 3, _ => simp [Q4.plus_sum]; omega
theorem pcT_tot {rs : List Fac} (hwf : WF rs) : ∀ i, i ≤ rs.length → totT (pcT rs i) = sumTo (useP rs (usesOf rs)) i
  | 0, _ => rfl
  | i + 1, hi => by
    have ih := pcT_tot hwf i (by omega)
    have gx : rs[i]? = some (rs[i]'(by omega)) := List.getElem?_eq_getElem _
    show _ = sumTo (useP rs (usesOf rs)) i + useP rs (usesOf rs) i
    unfold useP
    rw [fac_getD gx]
    rcases hwf i _ gx with ⟨h0, ha0, ha1, hb0, hb1⟩ | ⟨c, hc, hl, _⟩
    · rw [pcT_pair gx h0, if_pos h0, totT_add _ (pcT_len _ _) (by have := edl_b hwf (k := (rs[i]'(by omega)).a.toNat) (by omega); omega), ih]; rfl
    · have h0 : (rs[i]'(by omega)).l.size ≠ 0 := by rw [hl]; show (1 : Nat) ≠ 0; omega
      rw [pcT_let gx h0, if_neg h0, ih]; unfold useP; omega
/-- all pairs of letters: one less than letters -/
theorem pc_total {rs : List Fac} {ls : List Int} (hls : gLens rs [] = some ls) (hll : ls.length = rs.length) (h0 : 0 < rs.length) : totT (pcAll rs) = lastI ls - 1 := by
  rw [pcT_tot (wf_of hls) _ (Nat.le_refl _), uses_pairs hls hll h0]

/-- the rows of a table, which lie apart -/
def PTab (w : World) (base : Nat) (gs : List Nat) (qs : List Q4) : Prop := RowsOk w base gs qs ∧ ∀ (i j g : Nat), gs[i]? = some g → gs[j]? = some g → i = j
theorem PTab.below {w w' : World} {base : Nat} {gs : List Nat} {qs : List Q4} (h : PTab w base gs qs) (hb : Below w.heap.size w w') : PTab w' base gs qs :=
  ⟨⟨h.1.1, fun i g hg => ⟨(h.1.2 i g hg).1, (h.1.2 i g hg).2.next hb⟩⟩, h.2⟩
theorem PTab.at_ {w : World} {base : Nat} {gs : List Nat} {qs : List Q4} (h : PTab w base gs qs) {k g : Nat} (hg : gs[k]? = some g) {l : Nat} (hl : l < 4) : w.cell? ⟨g, l, none⟩ = some (.int .i64 ((qs.getD k Q4.nil).at_ l)) := by
  rw [(h.1.2 k g hg).2.cell l]
  simpa using encQ4_at (qs.getD k Q4.nil) hl
theorem PTab.set_ {w : World} {base : Nat} {gs : List Nat} {qs : List Q4} (h : PTab w base gs qs) {k g : Nat} (hg : gs[k]? = some g) {l : Nat} (hl : l < 4) (v : Int) :
    PTab (w.setCell ⟨g, l, none⟩ (.int .i64 ((qs.getD k Q4.nil).at_ l + v))) base gs (addT qs k l v) := by
  have hk : k < qs.length := by rw [← h.1.1]; exact (List.getElem?_eq_some_iff.1 hg).1
  refine ⟨⟨by unfold addT; rw [List.length_set]; exact h.1.1, fun i p hp => ⟨(h.1.2 i p hp).1, ?_⟩⟩, h.2⟩
  unfold addT
  rw [qgetD_set _ _ _ _ hk]
  by_cases hi : i = k
  · subst hi
    obtain rfl : g = p := Option.some.inj (hg.symm.trans hp)
    rw [if_pos rfl, ← Q4.plus_set _ hl]
    exact (h.1.2 i g hg).2.set_ l _
  · rw [if_neg hi]
    exact (h.1.2 i p hp).2.far (fun e => hi (by
      have e : p = g := e
      subst e
      exact h.2 i k p hp hg)) _
/-- what the makers of the table leave -/
def RetPT (w0 : World) (qs : List Q4) (e : Ending) (w' : World) : Prop :=
  ∃ A c gs, e = .returned (.slice A qs.length c) ∧ w'.ownsRow w0.heap.size 25 1 (.slice A qs.length c) qs.length (gs.flatMap encG) ∧ PTab w' w0.heap.size gs qs ∧ Below w0.heap.size w0 w'
/-- one row more -/
theorem PTab.push {w w9 : World} {k c' g : Nat} {A' : Option Addr} {gs : List Nat} {qs : List Q4} {q : Q4} {base : Nat} (h : PTab w base gs qs) (hk : qs.length = k) (hO : w.ownsRow base 25 1 (.slice A' k c') k (gs.flatMap encG))
    (BL : Blk w g 2 (encQ4 q).toArray) (hg : base ≤ g) (hn : ∀ (i p : Nat), gs[i]? = some p → p < g) (o : Obj) (hg9 : (w.alloc o).grownBy w9 (Value.slice A' k c').ownBlock) : PTab w9 base (gs ++ [g]) (qs ++ [q]) := by
  refine ⟨rows_push (hO.alloc o) h.1 hk BL hg (fun _ _ _ hB => hB.alloc o) hg9, fun i j p hi hj => ?_⟩
  have lt : ∀ i, (gs ++ [g])[i]? = some p → i < gs.length ∧ gs[i]? = some p ∨ i = gs.length ∧ p = g := fun i hi => by
    by_cases h1 : i < gs.length
    · exact .inl ⟨h1, by rwa [List.getElem?_append_left h1] at hi⟩
    · have h2 := (List.getElem?_eq_some_iff.1 hi).1
      simp at h2
      have h3 : i = gs.length := by omega
      subst h3
      rw [List.getElem?_append_right (by omega)] at hi
      exact .inr ⟨rfl, by simpa using hi.symm⟩
  rcases lt i hi with ⟨a1, a2⟩ | ⟨a1, a2⟩ <;> rcases lt j hj with ⟨b1, b2⟩ | ⟨b1, b2⟩
  · exact h.2 i j p a2 b2
  · have := hn i p a2; omega
  · have := hn j p b2; omega
  · omega
end Go.Proofs.Ytlokofafojepdaa
