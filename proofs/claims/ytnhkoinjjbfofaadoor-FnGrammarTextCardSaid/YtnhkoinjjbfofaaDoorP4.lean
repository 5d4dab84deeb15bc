/-
  Texts of this claim, merged: Drawn Stage3 LvM Lett LvW DrG P6Word P6G JoinM WdT WdW A2.
-/
import Derived.Test.YtnhkoinjjbfofaaDoorP3
import Derived.Deep.RegionHeld3
import Derived.Deep.RegionWith
import Derived.Deep.RegionLaw
import Derived.Deep.DeepCutAuto


/-
  The draw of a plain word: its letters are right, and it is not too long.
-/
namespace Go.Proofs.YtnhkoinjjbfofaaDoor
open Go.RowKit

theorem elem_byte : Elem Tryd.prog 22 5 1 1 := Elem.mk' (z := .int .u8 0) Tryd.underlying22 (by kernel_rfl) rfl
/-- what the draw of a word leaves -/
def StrDraw (w : World) (g K : Nat) (most : Int) (e : Ending) (w' : World) : Prop :=
  ∃ s : ByteArray, e = .returned (.string s) ∧ (s.size : Int) ≤ most ∧ s.data.toList.all letB = true ∧ Src w' g K ∧ w.grownBy w' (some g)
theorem byteE_of {v : Int} (h0 : 0 ≤ v) (h1 : v < 4) : #[Value.int .u8 (97 + v)].toList = byteE (UInt8.ofNat (97 + v.toNat)) ∧ letB (UInt8.ofNat (97 + v.toNat)) = true := by
  obtain ⟨j, rfl⟩ := Int.eq_ofNat_of_zero_le h0
  have e : (UInt8.ofNat (97 + j)).toNat = 97 + j := by rw [UInt8.toNat_ofNat']; omega
  constructor
  · simp only [byteE, Int.toNat_natCast, e]; simp
  · simp only [letB, Int.toNat_natCast, e]; simp; omega

theorem conv_own {w : World} {base n c : Nat} {A : Option Addr} {bs : List UInt8} (h : w.ownsRow base 5 1 (.slice A n c) n (bs.flatMap byteE)) (hl : bs.length = n) :
    (convert 22 9 (.slice A n c)).run Tryd.prog w = .ok (.string ⟨bs.toArray⟩) w := by
  subst hl
  cases A with
  | some a =>
    refine run_convert_bytes_back (P := Tryd.prog) w _ _ 5 a c bs Tryd.underlying22 Tryd.underlying5 Tryd.underlying9 fun j hj => ?_
    obtain ⟨g, cap, hv, _, _⟩ := h.form (by omega)
    obtain rfl := Option.some.inj (show some a = some ⟨g, 0, none⟩ from by injection hv)
    have := h.cells (g := g) rfl j _ (by
      have := flat_at (enc := byteE) (sz := 1) bs (fun _ _ => rfl) j _ (List.getElem?_eq_getElem hj) 0 (by omega)
      rw [Nat.mul_one, Nat.add_zero] at this
      rw [this]; rfl)
    simpa using this
  | none =>
    rcases h.2 with ⟨h1, h2⟩ | ⟨g, cap, cur, hv, _⟩
    · obtain rfl : bs = [] := List.eq_nil_of_length_eq_zero (by omega)
      rw [run_convert_bytes_string w _ _ 5 none _ c Tryd.underlying22 Tryd.underlying5 Tryd.underlying9]
      simp [Conv.bytesToString, go_sem]
      rfl
    · cases hv
theorem ext_let {s : ByteArray} (h : s.data.toList.all letB = true) (i j : Nat) : (s.extract i j).data.toList.all letB = true := by
  rw [ByteArray.data_extract, Array.toList_extract]
  rw [List.all_eq_true] at *
  intro x hx
  exact h x (List.mem_of_mem_drop (List.mem_of_mem_take hx))
end Go.Proofs.YtnhkoinjjbfofaaDoor


/-
  A region that draws its order, in which two or three operations that write may come up; a copy into a new row.
-/
namespace Go.Proofs.YtnhkoinjjbfofaaDoor
open Go.RowKit

section
variable {P : Program} {ops : Array Oper} {Q : Exit → Act → World → Prop} {md : Region.Mode} {S : World → Prop} {N : List Nat}
/-- what is to be shown of one that comes up -/
def UpN (P : Program) (ops : Array Oper) (Q : Exit → Act → World → Prop) (md : Region.Mode) (S : World → Prop) (N : List Nat) (fuel : Nat) (listed : Array Bool) (a : Act) (w : World) (i : Nat) (o : Oper) : Prop :=
  ∀ K' : Act → World → Prop, Shut (∀ a w, (N.contains i = false → S w) → wpAnyN P md ops Q S N fuel (listed.setIfInBounds i true) a w → K' a w) → if Region.wanted o (yielded ops a.tmps) = true then Oper.wp P o a w K' Q else K' (a.put o.dst undef) w
theorem wpAnyN_2 {i j : Nat} {o o' : Oper} {fuel : Nat} {listed : Array Bool} {a : Act} {w : World} (ho : ops[i]? = some o) (ho' : ops[j]? = some o') (hr : Region.ready md ops listed = [i, j])
    (h : UpN P ops Q md S N fuel listed a w i o) (h' : UpN P ops Q md S N fuel listed a w j o') : wpAnyN P md ops Q S N (fuel + 1) listed a w := by
  refine ⟨fun h0 => (by rw [h0] at hr; cases hr), fun k hk => ?_⟩
  rw [hr] at hk
  rcases List.mem_cons.1 hk with rfl | hk
  · exact wpOp_step ho (fun K' hK => h K' (fun a w hS hW => hK a w ⟨hS, hW⟩))
  · obtain rfl : k = j := by simpa using hk
    exact wpOp_step ho' (fun K' hK => h' K' (fun a w hS hW => hK a w ⟨hS, hW⟩))
theorem wpAnyN_3 {i j l : Nat} {o o' o'' : Oper} {fuel : Nat} {listed : Array Bool} {a : Act} {w : World} (ho : ops[i]? = some o) (ho' : ops[j]? = some o') (ho'' : ops[l]? = some o'') (hr : Region.ready md ops listed = [i, j, l])
    (h : UpN P ops Q md S N fuel listed a w i o) (h' : UpN P ops Q md S N fuel listed a w j o') (h'' : UpN P ops Q md S N fuel listed a w l o'') : wpAnyN P md ops Q S N (fuel + 1) listed a w := by
  refine ⟨fun h0 => (by rw [h0] at hr; cases hr), fun k hk => ?_⟩
  rw [hr] at hk
  rcases List.mem_cons.1 hk with rfl | hk
  · exact wpOp_step ho (fun K' hK => h K' (fun a w hS hW => hK a w ⟨hS, hW⟩))
  · rcases List.mem_cons.1 hk with rfl | hk
    · exact wpOp_step ho' (fun K' hK => h' K' (fun a w hS hW => hK a w ⟨hS, hW⟩))
    · obtain rfl : k = l := by simpa using hk
      exact wpOp_step ho'' (fun K' hK => h'' K' (fun a w hS hW => hK a w ⟨hS, hW⟩))
end
section
variable {α : Type} {P : Program} {w : World} {ops : Array Oper} {o : Oper} {a : Act} {K : Act → World → Prop} {Q : Exit → Act → World → Prop} {E : Prop}
/-- all elements into a new row, as a step of a region that draws its order; where the row lies then -/
theorem step_copyL (hgd : o.guard = none) (s x : Operand) (t : TypeId) (ho : o.op = .call { callee := .builtin .append, args := #[s, x], argTypes := #[t, t] })
    (base : Nat) (e : TypeId) (sz bytes : Nat) (EI : Elem P t e sz bytes) (enc : α → List Value) (e0 : Nat) (hs : a.eval s = .slice (some ⟨e0, 0, none⟩) 0 0)
    (hown : w.ownsRow base e sz (.slice (some ⟨e0, 0, none⟩) 0 0) 0 []) (ad : Addr) (m cc : Nat) (ys : List α) (hx : a.eval x = .slice (some ad) m cc) (hym : ys.length = m) (hm0 : 0 < m) (hnews : ∀ j u, (ys.flatMap enc)[j]? = some u → w.cell? (ad.add j) = some u)
    (hlen : ∀ y ∈ ys, (enc y).length = sz) (hone : ∀ y ∈ ys, ∀ u ∈ enc y, u.oneCell' = true) (hsz : 0 < sz) (hbytes : m * bytes ≤ 140737488355328) (hm : m ≤ maxLen) (hsize : base ≤ w.heap.size)
    (h : ∀ A' c' w', w'.ownsRow base e sz (.slice A' m c') m (ys.flatMap enc) → w.grownBy w' (some e0) → ((Value.slice A' m c').ownBlock = some e0 ∨ (Value.slice A' m c').ownBlock = some w.heap.size) → K (a.put o.dst (.slice A' m c')) w') :
    if Region.wanted o (yielded ops a.tmps) = true then Oper.wp P o a w K Q else E := by
  obtain ⟨ht, i, z, hi, hz, h1, h2, hzs⟩ := EI
  obtain ⟨v', w', hr, r2, r3, _, r5⟩ := run_append_own_at (P := P) w base t o.type e i z sz bytes ht hi hz h1 h2 hzs hsz _ 0 _ hown ad m cc (ys.flatMap enc) (by rw [flat_len ys hlen, hym]) hnews
    (fun u hu => by obtain ⟨y, hy, hu⟩ := List.mem_flatMap.1 hu; exact hone y hy u hu) (by omega) (by rw [Nat.zero_add]; exact hbytes) hsize
  rw [Nat.zero_add, List.nil_append] at r2
  obtain ⟨g', cap, rfl, _, _⟩ := r2.form (by omega)
  have hw : Region.wanted o (yielded ops a.tmps) = true := by simp [Region.wanted, hgd]
  rw [if_pos hw]
  unfold Oper.wp execOp
  simp only [ho, resolve, invoke, builtin, Sem.run_bind, Sem.run_pure, Result.andThen_ok, List.map_toArray, List.map_cons, List.map_nil, hs, hx, hr]
  exact h _ _ w' r2 r3 r5
end
end Go.Proofs.YtnhkoinjjbfofaaDoor


/-
  Level grammars: the plain part: rules with their depths, and how two level rules are made one.
-/
namespace Go.Proofs.YtnhkoinjjbfofaaDoor

structure LvS where
  rs : List Fac
  ds : List Int
def lvD (s : LvS) (k : Int) : Int := s.ds.getD k.toNat 0
def lvR (s : LvS) (k : Int) : Fac := s.rs.getD k.toNat default
def lvDep (s : LvS) (r : Fac) : Int := if r.l.size = 0 then max (lvD s r.a) (lvD s r.b) + 1 else 1
/-- a rule, added if it is not there -/
def lvRule (s : LvS) (r : Fac) : LvS × Int := if r ∈ s.rs then (s, ((s.rs.idxOf r : Nat) : Int)) else (⟨s.rs ++ [r], s.ds ++ [lvDep s r]⟩, (s.rs.length : Int))
def lvPair (s : LvS) (a b : Int) : LvS × Int := lvRule s ⟨⟨#[]⟩, a, b⟩
def lvLeft (s : LvS) (a z : Int) : LvS × Int :=
  if lvD s z ≤ lvD s a + 1 then lvPair s a z
  else if lvD s (lvR s z).a ≤ lvD s (lvR s z).b then lvPair (lvPair s a (lvR s z).a).1 (lvPair s a (lvR s z).a).2 (lvR s z).b
  else lvPair (lvPair (lvPair s a (lvR s (lvR s z).a).a).1 (lvR s (lvR s z).a).b (lvR s z).b).1 (lvPair s a (lvR s (lvR s z).a).a).2 (lvPair (lvPair s a (lvR s (lvR s z).a).a).1 (lvR s (lvR s z).a).b (lvR s z).b).2
def lvRight (s : LvS) (a z : Int) : LvS × Int :=
  if lvD s z ≤ lvD s a + 1 then lvPair s z a
  else if lvD s (lvR s z).b ≤ lvD s (lvR s z).a then lvPair (lvPair s (lvR s z).b a).1 (lvR s z).a (lvPair s (lvR s z).b a).2
  else lvPair (lvPair (lvPair s (lvR s z).a (lvR s (lvR s z).b).a).1 (lvR s (lvR s z).b).b a).1 (lvPair s (lvR s z).a (lvR s (lvR s z).b).a).2 (lvPair (lvPair s (lvR s z).a (lvR s (lvR s z).b).a).1 (lvR s (lvR s z).b).b a).2
def lvLevel : Nat → LvS → Int → Int → LvS × Int
  | 0, s, l, r => lvPair s l r
  | f + 1, s, l, r =>
    if 1 < lvD s l - lvD s r then lvLeft (lvLevel f s (lvR s l).b r).1 (lvR s l).a (lvLevel f s (lvR s l).b r).2
    else if lvD s l - lvD s r < -1 then lvRight (lvLevel f s l (lvR s r).a).1 (lvR s r).b (lvLevel f s l (lvR s r).a).2
    else lvPair s l r
/-- what holds of rules and depths -/
structure LvI (s : LvS) : Prop where
  len : s.ds.length = s.rs.length
  wf : WF s.rs
  dep : ∀ (k : Nat) (r : Fac), s.rs[k]? = some r → lvD s (k : Int) = lvDep s r
  lo : ∀ k : Nat, k < s.rs.length → 1 ≤ lvD s (k : Int) ∧ lvD s (k : Int) ≤ (k : Int) + 1
def Idx (s : LvS) (k : Int) : Prop := 0 ≤ k ∧ k < (s.rs.length : Int)
theorem LvI.get {s : LvS} (h : LvI s) {k : Int} (hk : Idx s k) : s.rs[k.toNat]? = some (lvR s k) := by
  unfold lvR
  rw [List.getD_eq_getElem?_getD, List.getElem?_eq_getElem (by have := hk.2; have := hk.1; omega)]; rfl
/-- a deep rule is a pair -/
theorem LvI.deep {s : LvS} (h : LvI s) {k : Int} (hk : Idx s k) (hd : 1 < lvD s k) : (lvR s k).l.size = 0 ∧ Idx s (lvR s k).a ∧ Idx s (lvR s k).b ∧ (lvR s k).a < k ∧ (lvR s k).b < k ∧ lvD s k = max (lvD s (lvR s k).a) (lvD s (lvR s k).b) + 1 := by
  have hg := h.get hk
  have h1 := h.dep _ _ hg
  have e : ((k.toNat : Nat) : Int) = k := by have := hk.1; omega
  rw [e] at h1
  rcases h.wf _ _ hg with ⟨h0, ha0, ha1, hb0, hb1⟩ | ⟨c, _, hl, _⟩
  · have := hk.2
    unfold lvDep at h1
    rw [if_pos h0] at h1
    exact ⟨h0, ⟨ha0, by omega⟩, ⟨hb0, by omega⟩, by omega, by omega, h1⟩
  · exfalso
    unfold lvDep at h1
    rw [if_neg (by rw [hl]; show ¬ (1 : Nat) = 0; omega)] at h1
    omega
/-- what an operation does -/
structure LvO (s : LvS) (t : LvS × Int) (g : Nat) : Prop where
  i : LvI t.1
  ext : ∃ er ed, t.1.rs = s.rs ++ er ∧ t.1.ds = s.ds ++ ed
  ix : Idx t.1 t.2
  len : t.1.rs.length ≤ s.rs.length + g
theorem LvO.grow {s : LvS} {t : LvS × Int} {g : Nat} (h : LvO s t g) : s.rs.length ≤ t.1.rs.length := by
  obtain ⟨er, ed, h1, _⟩ := h.ext
  rw [h1, List.length_append]; omega
theorem LvO.idx {s : LvS} {t : LvS × Int} {g : Nat} (h : LvO s t g) {k : Int} (hk : Idx s k) : Idx t.1 k := ⟨hk.1, by have := h.grow; have := hk.2; omega⟩
theorem LvO.r {s : LvS} {t : LvS × Int} {g : Nat} (h : LvO s t g) {k : Int} (hk : Idx s k) : lvR t.1 k = lvR s k := by
  obtain ⟨er, ed, h1, _⟩ := h.ext
  unfold lvR
  rw [h1, List.getD_eq_getElem?_getD, List.getD_eq_getElem?_getD, List.getElem?_append_left (by have := hk.1; have := hk.2; omega)]
theorem LvO.d {s : LvS} {t : LvS × Int} {g : Nat} (hs : LvI s) (h : LvO s t g) {k : Int} (hk : Idx s k) : lvD t.1 k = lvD s k := by
  obtain ⟨er, ed, _, h2⟩ := h.ext
  unfold lvD
  rw [h2, List.getD_eq_getElem?_getD, List.getD_eq_getElem?_getD, List.getElem?_append_left (by have := hk.1; have := hk.2; have := hs.len; omega)]
theorem LvO.trans {s : LvS} {t u : LvS × Int} {g1 g2 : Nat} (h1 : LvO s t g1) (h2 : LvO t.1 u g2) : LvO s u (g1 + g2) := by
  obtain ⟨e1, d1, a1, b1⟩ := h1.ext
  obtain ⟨e2, d2, a2, b2⟩ := h2.ext
  exact ⟨h2.i, ⟨e1 ++ e2, d1 ++ d2, by rw [a2, a1, List.append_assoc], by rw [b2, b1, List.append_assoc]⟩, h2.ix, by have := h1.len; have := h2.len; omega⟩
theorem LvO.more {s : LvS} {t : LvS × Int} {g g' : Nat} (h : LvO s t g) (hg : g ≤ g') : LvO s t g' := ⟨h.i, h.ext, h.ix, by have := h.len; omega⟩
/-- what may be added -/
def RuleOk (s : LvS) (r : Fac) : Prop := (r.l.size = 0 ∧ Idx s r.a ∧ Idx s r.b) ∨ (∃ c, letB c = true ∧ r.l = ⟨#[c]⟩ ∧ r.a = 0 ∧ r.b = 0)
theorem lvRule_do {s : LvS} (h : LvI s) {r : Fac} (hr : RuleOk s r) : LvO s (lvRule s r) 1 := by
  unfold lvRule
  split
  · rename_i hm
    have := List.idxOf_lt_length_of_mem hm
    exact ⟨h, ⟨[], [], by simp, by simp⟩, ⟨by simp, by simp only; omega⟩, by simp⟩
  · rename_i hm
    have hl := h.len
    have hdd : 1 ≤ lvDep s r ∧ lvDep s r ≤ (s.rs.length : Int) + 1 := by
      unfold lvDep
      rcases hr with ⟨h0, ha, hb⟩ | ⟨c, _, hl2, _⟩
      · rw [if_pos h0]
        have e1 := h.lo r.a.toNat (by have := ha.1; have := ha.2; omega)
        have e2 := h.lo r.b.toNat (by have := hb.1; have := hb.2; omega)
        rw [show ((r.a.toNat : Nat) : Int) = r.a by have := ha.1; omega] at e1
        rw [show ((r.b.toNat : Nat) : Int) = r.b by have := hb.1; omega] at e2
        have := ha.2; have := hb.2
        omega
      · rw [if_neg (by rw [hl2]; show ¬ (1 : Nat) = 0; omega)]; omega
    obtain ⟨dd, hdn⟩ : ∃ dd, lvDep s r = dd := ⟨_, rfl⟩
    rw [hdn] at hdd ⊢
    have old : ∀ k : Int, Idx s k → lvD ⟨s.rs ++ [r], s.ds ++ [dd]⟩ k = lvD s k := fun k hk => by
      unfold lvD
      rw [List.getD_eq_getElem?_getD, List.getD_eq_getElem?_getD, List.getElem?_append_left (by have := hk.1; have := hk.2; omega)]
    have new : lvD ⟨s.rs ++ [r], s.ds ++ [dd]⟩ (s.rs.length : Int) = dd := by
      unfold lvD
      rw [List.getD_eq_getElem?_getD, Int.toNat_natCast, ← hl, List.getElem?_append_right (Nat.le_refl _), Nat.sub_self]; rfl
    have dold : ∀ q : Fac, (q.l.size = 0 → Idx s q.a ∧ Idx s q.b) → lvDep ⟨s.rs ++ [r], s.ds ++ [dd]⟩ q = lvDep s q := fun q hq => by
      unfold lvDep
      by_cases h0 : q.l.size = 0
      · rw [if_pos h0, if_pos h0, old _ (hq h0).1, old _ (hq h0).2]
      · rw [if_neg h0, if_neg h0]
    refine ⟨⟨by simp [hl], ?_, ?_, ?_⟩, ⟨[r], [dd], rfl, rfl⟩, ⟨by simp, by simp only [List.length_append, List.length_singleton]; omega⟩, by simp⟩
    · intro k q hq
      by_cases hk : k < s.rs.length
      · rw [List.getElem?_append_left hk] at hq; exact h.wf k q hq
      · have hk2 : k = s.rs.length := by have := (List.getElem?_eq_some_iff.1 hq).1; simp at this; omega
        subst hk2
        simp at hq; subst hq
        rcases hr with ⟨h0, ha, hb⟩ | hc
        · exact .inl ⟨h0, ha.1, ha.2, hb.1, hb.2⟩
        · exact .inr hc
    · intro k q hq
      by_cases hk : k < s.rs.length
      · rw [List.getElem?_append_left hk] at hq
        rw [old k ⟨by omega, by omega⟩, h.dep k q hq, dold]
        intro h0
        rcases h.wf k q hq with ⟨_, ha0, ha1, hb0, hb1⟩ | ⟨c, _, hl2, _⟩
        · exact ⟨⟨ha0, by omega⟩, ⟨hb0, by omega⟩⟩
        · rw [hl2] at h0; exact absurd h0 (show ¬ (1 : Nat) = 0 by omega)
      · have hk2 : k = s.rs.length := by have := (List.getElem?_eq_some_iff.1 hq).1; simp at this; omega
        subst hk2
        simp at hq; subst hq
        rw [new, dold, hdn]
        intro h0
        rcases hr with ⟨_, ha, hb⟩ | ⟨c, _, hl2, _⟩
        · exact ⟨ha, hb⟩
        · rw [hl2] at h0; exact absurd h0 (show ¬ (1 : Nat) = 0 by omega)
    · intro k hk
      by_cases hk' : k < s.rs.length
      · rw [old k ⟨by omega, by omega⟩]; exact h.lo k hk'
      · have hk2 : k = s.rs.length := by simp at hk; omega
        subst hk2
        rw [new]; exact hdd
theorem lvPair_do {s : LvS} (h : LvI s) {a b : Int} (ha : Idx s a) (hb : Idx s b) : LvO s (lvPair s a b) 1 := lvRule_do h (.inl ⟨rfl, ha, hb⟩)
theorem lvLeft_do {s : LvS} (h : LvI s) {a z : Int} (ha : Idx s a) (hz : Idx s z) : LvO s (lvLeft s a z) 3 := by
  have da := h.lo a.toNat (by have := ha.1; have := ha.2; omega)
  rw [show ((a.toNat : Nat) : Int) = a by have := ha.1; omega] at da
  unfold lvLeft
  split
  · exact (lvPair_do h ha hz).more (by omega)
  · rename_i h1
    obtain ⟨_, hc, hd, _, _, _⟩ := h.deep hz (by omega)
    have dd := h.lo (lvR s z).b.toNat (by have := hd.1; have := hd.2; omega)
    rw [show (((lvR s z).b.toNat : Nat) : Int) = (lvR s z).b by have := hd.1; omega] at dd
    split
    · have o1 := lvPair_do h ha hc
      exact (o1.trans (lvPair_do o1.i o1.ix (o1.idx hd))).more (by omega)
    · rename_i h2
      obtain ⟨_, he, hf, _, _, _⟩ := h.deep hc (by omega)
      have o1 := lvPair_do h ha he
      have o2 := lvPair_do o1.i (o1.idx hf) (o1.idx hd)
      exact ((o1.trans o2).trans (lvPair_do o2.i (o2.idx o1.ix) o2.ix)).more (by omega)
theorem lvRight_do {s : LvS} (h : LvI s) {a z : Int} (ha : Idx s a) (hz : Idx s z) : LvO s (lvRight s a z) 3 := by
  have da := h.lo a.toNat (by have := ha.1; have := ha.2; omega)
  rw [show ((a.toNat : Nat) : Int) = a by have := ha.1; omega] at da
  unfold lvRight
  split
  · exact (lvPair_do h hz ha).more (by omega)
  · rename_i h1
    obtain ⟨_, hd, hc, _, _, _⟩ := h.deep hz (by omega)
    have dd := h.lo (lvR s z).a.toNat (by have := hd.1; have := hd.2; omega)
    rw [show (((lvR s z).a.toNat : Nat) : Int) = (lvR s z).a by have := hd.1; omega] at dd
    split
    · have o1 := lvPair_do h hc ha
      exact (o1.trans (lvPair_do o1.i (o1.idx hd) o1.ix)).more (by omega)
    · rename_i h2
      obtain ⟨_, hf, he, _, _, _⟩ := h.deep hc (by omega)
      have o1 := lvPair_do h hd hf
      have o2 := lvPair_do o1.i (o1.idx he) (o1.idx ha)
      exact ((o1.trans o2).trans (lvPair_do o2.i (o2.idx o1.ix) o2.ix)).more (by omega)
theorem lvLevel_do : ∀ (f : Nat) {s : LvS} (_ : LvI s) {l r : Int} (_ : Idx s l) (_ : Idx s r), l + r ≤ f → LvO s (lvLevel f s l r) (3 * f + 1)
  | 0, s, h, l, r, hl, hr, hf => (lvPair_do h hl hr).more (by omega)
  | f + 1, s, h, l, r, hl, hr, hf => by
    have d1 := h.lo l.toNat (by have := hl.1; have := hl.2; omega)
    have d2 := h.lo r.toNat (by have := hr.1; have := hr.2; omega)
    rw [show ((l.toNat : Nat) : Int) = l by have := hl.1; omega] at d1
    rw [show ((r.toNat : Nat) : Int) = r by have := hr.1; omega] at d2
    unfold lvLevel
    split
    · obtain ⟨_, ha, hb, ha2, hb2, _⟩ := h.deep hl (by omega)
      have o1 := lvLevel_do f h hb hr (by omega)
      exact (o1.trans (lvLeft_do o1.i (o1.idx ha) o1.ix)).more (by omega)
    · split
      · obtain ⟨_, ha, hb, ha2, hb2, _⟩ := h.deep hr (by omega)
        have o1 := lvLevel_do f h hl ha (by omega)
        exact (o1.trans (lvRight_do o1.i (o1.idx hb) o1.ix)).more (by omega)
      · exact (lvPair_do h hl hr).more (by omega)
end Go.Proofs.YtnhkoinjjbfofaaDoor


/-
  The reference's small functions on letters and numbers.
-/
namespace Go.Proofs.YtnhkoinjjbfofaaDoor
open Go.RowKit

end Go.Proofs.YtnhkoinjjbfofaaDoor


/-
  Level grammars: rules and depths in memory, what a call leaves as it was.
-/
namespace Go.Proofs.YtnhkoinjjbfofaaDoor
open Go.RowKit

section
variable {α : Type} {P : Program} {w : World} {ops : Array Oper} {o : Oper} {a : Act} {K : Act → World → Prop} {Q : Exit → Act → World → Prop} {E : Prop}
/-- one element more, as a step of a region that draws its order; where the row lies then -/
theorem step_pushL (hgd : o.guard = none) (s x : Operand) (t : TypeId) (ho : o.op = .call { callee := .builtin .append, args := #[s, x], argTypes := #[t, t] })
    (base : Nat) (e : TypeId) (sz bytes : Nat) (EI : Elem P t e sz bytes) (enc : α → List Value) (A : Option Addr) (n c : Nat) (xs : List α) (hs : a.eval s = .slice A n c)
    (hown : w.ownsRow base e sz (.slice A n c) n (xs.flatMap enc)) (g : Nat) (y : α) (cs : Array Value) (t' : TypeId) (fr : Nat × Nat) (hx : a.eval x = .slice (some ⟨g, 0, none⟩) 1 1) (hg : w.heap[g]? = some (.cells cs t' fr)) (hcs : cs.toList = enc y)
    (hlen : (enc y).length = sz) (hone : ∀ u ∈ enc y, u.oneCell' = true) (hsz : 0 < sz) (hbytes : (n + 1) * bytes ≤ 140737488355328) (hm : n + 1 ≤ maxLen) (hsize : base ≤ w.heap.size)
    (h : ∀ A' c' w', w'.ownsRow base e sz (.slice A' (n + 1) c') (n + 1) ((xs ++ [y]).flatMap enc) → w.grownBy w' (Value.slice A n c).ownBlock →
      ((Value.slice A' (n + 1) c').ownBlock = (Value.slice A n c).ownBlock ∨ (Value.slice A' (n + 1) c').ownBlock = some w.heap.size) →
      K (a.put o.dst (.slice A' (n + 1) c')) w') : if Region.wanted o (yielded ops a.tmps) = true then Oper.wp P o a w K Q else E := by
  obtain ⟨ht, i, z, hi, hz, h1, h2, hzs⟩ := EI
  have hnews : ∀ j u, (enc y)[j]? = some u → w.cell? ((⟨g, 0, none⟩ : Addr).add j) = some u := by rw [← hcs]; exact World.news_of_block hg
  obtain ⟨v', w', hr, r2, r3, _, r5⟩ := run_append_own_at (P := P) w base t o.type e i z sz bytes ht hi hz h1 h2 hzs hsz _ n _ hown ⟨g, 0, none⟩ 1 1 (enc y) (by rw [hlen]; omega) hnews hone hm hbytes hsize
  obtain ⟨g', cap, rfl, _, _⟩ := r2.form (by omega)
  have hw : Region.wanted o (yielded ops a.tmps) = true := by simp [Region.wanted, hgd]
  rw [if_pos hw]
  unfold Oper.wp execOp
  simp only [ho, resolve, invoke, builtin, Sem.run_bind, Sem.run_pure, Result.andThen_ok, List.map_toArray, List.map_cons, List.map_nil, hs, hx, hr]
  exact h _ _ w' (by rw [List.flatMap_append]; simpa using r2) r3 r5
end
/-- rules and depths, in a box of type T whose third cell is z -/
structure LvG (T : TypeId) (w0 W : World) (X : Nat) (z : Value) (A : Option Addr) (n c : Nat) (B : Option Addr) (m d : Nat) (rs : List Fac) (ds : List Int) : Prop where
  q : W.ownsRow w0.heap.size 48 3 (.slice A n c) n (rs.flatMap Fac.cells)
  k : W.ownsRow w0.heap.size 2 1 (.slice B m d) m (ds.flatMap intE)
  x : Blk W X T #[.slice A n c, .slice B m d, z]
  e : Below w0.heap.size w0 W
  hx : w0.heap.size ≤ X
  t1 : 48 ≠ T
  t2 : 2 ≠ T
/-- what a call leaves as it was: all but the box, the map and the two rows -/
structure LvF (W W' : World) (X M : Nat) (v v' u u' : Value) : Prop where
  size : W.heap.size ≤ W'.heap.size
  kept : ∀ x, x < W.heap.size → x ≠ X → x ≠ M → some x ≠ v.ownBlock → some x ≠ u.ownBlock → W'.heap[x]? = W.heap[x]?
  row : v'.ownBlock = v.ownBlock ∨ ∀ x, v'.ownBlock = some x → W.heap.size ≤ x
  row' : u'.ownBlock = u.ownBlock ∨ ∀ x, u'.ownBlock = some x → W.heap.size ≤ x
section
variable {w0 W W' W'' : World} {X M : Nat} {v v' v'' u u' u'' : Value}
theorem LvF.of_below (hb : Below W.heap.size W W') : LvF W W' X M v v u u := ⟨hb.size, fun x hx _ _ _ _ => hb.block x hx, .inl rfl, .inl rfl⟩
theorem LvF.trans (h1 : LvF W W' X M v v' u u') (h2 : LvF W' W'' X M v' v'' u' u'') : LvF W W'' X M v v'' u u'' := by
  refine ⟨Nat.le_trans h1.size h2.size, fun x hx hX hM hv hu => ?_, ?_, ?_⟩
  · rw [h2.kept x (Nat.lt_of_lt_of_le hx h1.size) hX hM (fun e => ?_) (fun e => ?_), h1.kept x hx hX hM hv hu]
    · rcases h1.row with q | q
      · rw [q] at e; exact hv e
      · have := q x e.symm; omega
    · rcases h1.row' with q | q
      · rw [q] at e; exact hu e
      · have := q x e.symm; omega
  · rcases h2.row with q | q
    · rw [q]; exact h1.row
    · exact .inr fun x hx => Nat.le_trans h1.size (q x hx)
  · rcases h2.row' with q | q
    · rw [q]; exact h1.row'
    · exact .inr fun x hx => Nat.le_trans h1.size (q x hx)
theorem LvF.of_grown (hg : W.grownBy W' v.ownBlock) (hat : v'.ownBlock = v.ownBlock ∨ v'.ownBlock = some W.heap.size) : LvF W W' X M v v' u u :=
  ⟨hg.4, fun x hx _ _ hv _ => hg.block x hx hv, hat.imp id fun e x hx => by rw [e] at hx; injection hx with hx; omega, .inl rfl⟩
theorem LvF.of_grown' (hg : W.grownBy W' u.ownBlock) (hat : u'.ownBlock = u.ownBlock ∨ u'.ownBlock = some W.heap.size) : LvF W W' X M v v u u' :=
  ⟨hg.4, fun x hx _ _ _ hu => hg.block x hx hu, .inl rfl, hat.imp id fun e x hx => by rw [e] at hx; injection hx with hx; omega⟩
theorem LvF.of_map (hg : W.grownBy W' (some M)) : LvF W W' X M v v u u :=
  ⟨hg.4, fun x hx _ hM _ _ => hg.block x hx (by intro e; injection e with e; exact hM e), .inl rfl, .inl rfl⟩
theorem LvF.setX (h : LvF W W' X M v v' u u') (i : Nat) (z : Value) : LvF W (W'.setCell ⟨X, i, none⟩ z) X M v v' u u' := by
  refine ⟨by have := h.size; have h2 := (gb_set W' X i z).4; omega, fun y hy hX hM hv hu => ?_, h.row, h.row'⟩
  rw [Below.heap_setCell W' ⟨X, i, none⟩ z y hX]
  exact h.kept y hy hX hM hv hu
theorem LvF.box (h : LvF W W' X M v v' u u') {x : Nat} (hx : W.heap.size ≤ x) (i : Nat) (z : Value) : LvF W (W'.setCell ⟨x, i, none⟩ z) X M v v' u u' := by
  refine ⟨by have := h.size; have h2 := (gb_set W' x i z).4; omega, fun y hy hX hM hv hu => ?_, h.row, h.row'⟩
  rw [Below.heap_setCell W' ⟨x, i, none⟩ z y (show y ≠ x by omega)]
  exact h.kept y hy hX hM hv hu
theorem LvF.blk (h : LvF W W' X M v v' u u') {x : Nat} {t : TypeId} {cs : Array Value} (hB : Blk W x t cs) (hX : x ≠ X) (hM : x ≠ M) (hv : some x ≠ v.ownBlock) (hu : some x ≠ u.ownBlock) : Blk W' x t cs := (h.kept x hB.lt hX hM hv hu).trans hB
end
section
variable {T : TypeId} {w0 W W' : World} {X M : Nat} {z : Value} {A : Option Addr} {n c : Nat} {B : Option Addr} {m d : Nat} {rs : List Fac} {ds : List Int}
theorem LvG.next (h : LvG T w0 W X z A n c B m d rs ds) (hb : Below W.heap.size W W') : LvG T w0 W' X z A n c B m d rs ds :=
  ⟨own_next h.q hb, own_next h.k hb, h.x.next hb, h.e.trans (hb.mono h.e.size), h.hx, h.t1, h.t2⟩
theorem LvG.alloc (h : LvG T w0 W X z A n c B m d rs ds) (o : Obj) : LvG T w0 (W.alloc o) X z A n c B m d rs ds := h.next ((Below.refl _ _).alloc (Nat.le_refl _) _)
theorem LvG.drew (h : LvG T w0 W X z A n c B m d rs ds) : LvG T w0 W.drew X z A n c B m d rs ds := h.next (Below.refl _ _).drew
/-- the rules grow; the box is not yet told -/
structure LvG' (T : TypeId) (w0 W : World) (X : Nat) (z : Value) (A : Option Addr) (n c : Nat) (B : Option Addr) (m d : Nat) (rs : List Fac) (ds : List Int) (vx ux : Value) : Prop where
  q : W.ownsRow w0.heap.size 48 3 (.slice A n c) n (rs.flatMap Fac.cells)
  k : W.ownsRow w0.heap.size 2 1 (.slice B m d) m (ds.flatMap intE)
  x : Blk W X T #[vx, ux, z]
  e : Below w0.heap.size w0 W
  hx : w0.heap.size ≤ X
  t1 : 48 ≠ T
  t2 : 2 ≠ T
theorem LvG.open (h : LvG T w0 W X z A n c B m d rs ds) : LvG' T w0 W X z A n c B m d rs ds (.slice A n c) (.slice B m d) := ⟨h.q, h.k, h.x, h.e, h.hx, h.t1, h.t2⟩
theorem LvG'.shut (h : LvG' T w0 W X z A n c B m d rs ds (.slice A n c) (.slice B m d)) : LvG T w0 W X z A n c B m d rs ds := ⟨h.q, h.k, h.x, h.e, h.hx, h.t1, h.t2⟩
variable {vx ux : Value}
theorem LvG'.next (h : LvG' T w0 W X z A n c B m d rs ds vx ux) (hb : Below W.heap.size W W') : LvG' T w0 W' X z A n c B m d rs ds vx ux :=
  ⟨own_next h.q hb, own_next h.k hb, h.x.next hb, h.e.trans (hb.mono h.e.size), h.hx, h.t1, h.t2⟩
theorem LvG'.alloc (h : LvG' T w0 W X z A n c B m d rs ds vx ux) (o : Obj) : LvG' T w0 (W.alloc o) X z A n c B m d rs ds vx ux := h.next ((Below.refl _ _).alloc (Nat.le_refl _) _)
theorem LvG'.drew (h : LvG' T w0 W X z A n c B m d rs ds vx ux) : LvG' T w0 W.drew X z A n c B m d rs ds vx ux := h.next (Below.refl _ _).drew
theorem LvG'.pushR {A8 : Option Addr} {k8 c8 : Nat} {rs' : List Fac} (h : LvG' T w0 W X z A n c B m d rs ds vx ux) (hq : W'.ownsRow w0.heap.size 48 3 (.slice A8 k8 c8) k8 (rs'.flatMap Fac.cells)) (hg : W.grownBy W' (Value.slice A n c).ownBlock) :
    LvG' T w0 W' X z A8 k8 c8 B m d rs' ds vx ux :=
  ⟨hq, h.k.kept hg (own_ne h.k h.q (by decide)), h.x.grown hg (own_blk_ne h.q h.x h.t1), h.e.grown hg h.e.size (own_ge h.q), h.hx, h.t1, h.t2⟩
theorem LvG'.pushD {B8 : Option Addr} {k8 c8 : Nat} {ds' : List Int} (h : LvG' T w0 W X z A n c B m d rs ds vx ux) (hq : W'.ownsRow w0.heap.size 2 1 (.slice B8 k8 c8) k8 (ds'.flatMap intE)) (hg : W.grownBy W' (Value.slice B m d).ownBlock) :
    LvG' T w0 W' X z A n c B8 k8 c8 rs ds' vx ux :=
  ⟨h.q.kept hg (own_ne h.q h.k (by decide)), hq, h.x.grown hg (own_blk_ne h.k h.x h.t2), h.e.grown hg h.e.size (own_ge h.k), h.hx, h.t1, h.t2⟩
theorem LvG'.set0 (h : LvG' T w0 W X z A n c B m d rs ds vx ux) (y : Value) : LvG' T w0 (W.setCell ⟨X, 0, none⟩ y) X z A n c B m d rs ds y ux :=
  ⟨own_kept' h.q h.x h.t1 _, own_kept' h.k h.x h.t2 _, h.x.set_ 0 _, h.e.setCell h.hx _, h.hx, h.t1, h.t2⟩
theorem LvG'.set1 (h : LvG' T w0 W X z A n c B m d rs ds vx ux) (y : Value) : LvG' T w0 (W.setCell ⟨X, 1, none⟩ y) X z A n c B m d rs ds vx y :=
  ⟨own_kept' h.q h.x h.t1 _, own_kept' h.k h.x h.t2 _, h.x.set_ 1 _, h.e.setCell h.hx _, h.hx, h.t1, h.t2⟩
theorem LvG'.set2 (h : LvG' T w0 W X z A n c B m d rs ds vx ux) (y : Value) : LvG' T w0 (W.setCell ⟨X, 2, none⟩ y) X y A n c B m d rs ds vx ux :=
  ⟨own_kept' h.q h.x h.t1 _, own_kept' h.k h.x h.t2 _, h.x.set_ 2 _, h.e.setCell h.hx _, h.hx, h.t1, h.t2⟩
theorem LvG'.put {mm : List (Fac × Value)} (h : LvG' T w0 W X z A n c B m d rs ds vx ux) (hm : MapIs W M Fac.val mm) (hne : M ≠ X) (hg : W.grownBy W' (some M)) (hb : Below w0.heap.size w0 W') : LvG' T w0 W' X z A n c B m d rs ds vx ux :=
  have ne : ∀ {e sz n : Nat} {v : Value} {xs : List Value}, W.ownsRow w0.heap.size e sz v n xs → v.ownBlock = none ∨ v.ownBlock ≠ some M := fun ho => by
    have := hm.ne_own ho
    exact .inr fun e => this e.symm
  ⟨h.q.kept hg (ne h.q), h.k.kept hg (ne h.k), h.x.grown hg (by intro e; injection e with e; exact hne e.symm), hb, h.hx, h.t1, h.t2⟩
/-- what may be read -/
theorem LvG.red (h : LvG T w0 W X z A n c B n d rs ds) (hr : rs.length = n) (hd : ds.length = n) (hn : 0 < n) : ∃ ga gb, A = some ⟨ga, 0, none⟩ ∧ B = some ⟨gb, 0, none⟩ ∧ ga < W.heap.size ∧ gb < W.heap.size ∧
    ∀ k : Nat, k < n → W.cell? ⟨gb, k, none⟩ = some (.int .i64 (lvD ⟨rs, ds⟩ k)) ∧ W.cell? ⟨ga, k * 3, none⟩ = some (.string (lvR ⟨rs, ds⟩ k).l) ∧ W.cell? ⟨ga, k * 3 + 1, none⟩ = some (.int .i64 (lvR ⟨rs, ds⟩ k).a) ∧ W.cell? ⟨ga, k * 3 + 2, none⟩ = some (.int .i64 (lvR ⟨rs, ds⟩ k).b) := by
  obtain ⟨ga, ca, hva, hga0, hga1⟩ := h.q.form hn
  obtain ⟨gb, cb, hvb, hgb0, hgb1⟩ := h.k.form hn
  obtain rfl : A = some ⟨ga, 0, none⟩ := by injection hva
  obtain rfl : B = some ⟨gb, 0, none⟩ := by injection hvb
  refine ⟨ga, gb, rfl, rfl, by have := h.q.lt ga rfl; omega, by have := h.k.lt gb rfl; omega, fun k hk => ?_⟩
  have a1 := own_at (sz := 1) (enc := intE) (fun _ _ => rfl) h.k hd 0 k hk 0 (by omega)
  have r0 := own_at (sz := 3) (enc := Fac.cells) (fun x _ => fac_len x) h.q hr default k hk 0 (by omega)
  have r1 := own_at (sz := 3) (enc := Fac.cells) (fun x _ => fac_len x) h.q hr default k hk 1 (by omega)
  have r2 := own_at (sz := 3) (enc := Fac.cells) (fun x _ => fac_len x) h.q hr default k hk 2 (by omega)
  rw [Nat.mul_one, Nat.add_zero] at a1
  rw [Nat.add_zero] at r0
  exact ⟨a1, r0, r1, r2⟩
end
end Go.Proofs.YtnhkoinjjbfofaaDoor


/-
  The draw of a grammar: it is valid, and its word is not too long.
-/
namespace Go.Proofs.YtnhkoinjjbfofaaDoor
open Go.RowKit

/-- a grammar that is drawn under way -/
structure DgW (w W : World) (g K : Nat) (A : Option Addr) (n c : Nat) (rs : List Fac) : Prop where
  q : W.ownsRow w.heap.size 48 3 (.slice A n c) n (rs.flatMap Fac.cells)
  r : Blk W w.heap.size 26 #[.slice none 0 0]
  x : Blk W (w.heap.size + 1) 26 #[.slice A n c]
  s : Src W g K
  e : w.grownBy W (some g)
  hg : g < w.heap.size
section
variable {w W W' : World} {g K : Nat} {A : Option Addr} {n c : Nat} {rs : List Fac}
theorem DgW.next (h : DgW w W g K A n c rs) (hb : Below W.heap.size W W') : DgW w W' g K A n c rs := ⟨own_next h.q hb, h.r.next hb, h.x.next hb, h.s.next hb, gb_next h.e hb, h.hg⟩
theorem DgW.alloc (h : DgW w W g K A n c rs) (o : Obj) : DgW w (W.alloc o) g K A n c rs := h.next ((Below.refl _ _).alloc (Nat.le_refl _) _)
theorem DgW.pick {K' : Nat} (h : DgW w W g K A n c rs) (hs : Src W' g K') (hg : W.grownBy W' (some g)) : DgW w W' g K' A n c rs :=
  ⟨own_kept h.q hg h.hg, h.r.grown hg (by intro e; injection e with e; have := h.hg; omega), h.x.grown hg (by intro e; injection e with e; have := h.hg; omega), hs, gb_trans h.e hg, h.hg⟩
theorem DgW.keepAt {ga b : Nat} (h : DgW w W g K (some ⟨ga, 0, none⟩) n c rs) (hg : W.grownBy W' (some b)) (hb : w.heap.size + 2 ≤ b) (hne : ga ≠ b) : DgW w W' g K (some ⟨ga, 0, none⟩) n c rs :=
  ⟨h.q.kept hg (.inr (by intro e; have e2 : some ga = some b := e; injection e2 with e2; exact hne e2)), h.r.grown hg (by intro e; injection e with e; omega), h.x.grown hg (by intro e; injection e with e; omega), h.s.grown hg (fun k e => by injection e with e; have := h.hg; omega),
    gb_weak h.e hg (by omega), h.hg⟩
theorem DgW.news {ga : Nat} (h : DgW w W g K (some ⟨ga, 0, none⟩) n c rs) : ∀ j u, (rs.flatMap Fac.cells)[j]? = some u → W.cell? ((⟨ga, 0, none⟩ : Addr).add j) = some u := fun j u hu => h.q.cells (g := ga) rfl j u hu
/-- the grammar is put anew -/
theorem DgW.put {A' : Option Addr} {n' c' : Nat} {rs' : List Fac} (h : DgW w W g K A n c rs) (hq : W.ownsRow w.heap.size 48 3 (.slice A' n' c') n' (rs'.flatMap Fac.cells)) : DgW w (W.setCell ⟨w.heap.size + 1, 0, none⟩ (.slice A' n' c')) g K A' n' c' rs' := by
  have hg := gb_set W (w.heap.size + 1) 0 (.slice A' n' c')
  exact ⟨own_kept' hq h.x (by decide) _, h.r.grown hg (by intro e; injection e with e; omega), h.x.set_ 0 _, h.s.grown hg (fun k e => by injection e with e; have := h.hg; omega), gb_weak h.e hg (by omega), h.hg⟩
/-- the result told -/
theorem DgW.done (h : DgW w W g K A n c rs) (hl : rs.length = n) : (W.setCell ⟨w.heap.size, 0, none⟩ (.slice A n c)).ownsRow w.heap.size 48 3 (.slice A rs.length c) rs.length (rs.flatMap Fac.cells) ∧
    Src (W.setCell ⟨w.heap.size, 0, none⟩ (.slice A n c)) g K ∧ w.grownBy (W.setCell ⟨w.heap.size, 0, none⟩ (.slice A n c)) (some g) := by
  have hg := gb_set W w.heap.size 0 (.slice A n c)
  rw [hl]
  exact ⟨own_kept' h.q h.r (by decide) _, h.s.grown hg (fun k e => by injection e with e; have := h.hg; omega), gb_weak h.e hg (Nat.le_refl _)⟩
/-- one rule more in the row, the grammar put anew -/
theorem DgW.push {A' : Option Addr} {n' c' : Nat} {rs' : List Fac} (h : DgW w W g K A n c rs) (hq : W'.ownsRow w.heap.size 48 3 (.slice A' n' c') n' (rs'.flatMap Fac.cells)) (hg : W.grownBy W' (Value.slice A n c).ownBlock) :
    DgW w (W'.setCell ⟨w.heap.size + 1, 0, none⟩ (.slice A' n' c')) g K A' n' c' rs' := by
  have hx := h.x.grown hg (own_blk_ne h.q h.x (by decide))
  have hg2 := gb_set W' (w.heap.size + 1) 0 (.slice A' n' c')
  have hs := h.s.grown hg (fun k e => by have := own_ge h.q k e; have := h.hg; omega)
  exact ⟨own_kept' hq hx (by decide) _, (h.r.grown hg (own_blk_ne h.q h.r (by decide))).grown hg2 (by intro e; injection e with e; omega), hx.set_ 0 _, hs.grown hg2 (fun k e => by injection e with e; have := h.hg; omega),
    gb_weak (gb_weak' h.e hg (own_ge h.q)) hg2 (by omega), h.hg⟩
end
/-- what is drawn -/
structure DgOk (rs : List Fac) (most : Int) : Prop where
  wf : WF rs
  pos : 0 < rs.length
  few : rs.length ≤ 14
  len : ((wdN rs).length : Int) ≤ most
def GrDraw (w : World) (g K : Nat) (most : Int) (e : Ending) (w' : World) : Prop :=
  ∃ A c rs, e = .returned (.agg #[.slice A rs.length c]) ∧ DgOk rs most ∧ w'.ownsRow w.heap.size 48 3 (.slice A rs.length c) rs.length (rs.flatMap Fac.cells) ∧ Src w' g K ∧ w.grownBy w' (some g)
def ltR (k : Nat) : List Fac := (List.range k).map fun i => ruleC (UInt8.ofNat (97 + i))
theorem ltR_succ (k : Nat) : ltR (k + 1) = ltR k ++ [ruleC (UInt8.ofNat (97 + k))] := by unfold ltR; rw [List.range_succ, List.map_append]; rfl
theorem ltR_len (k : Nat) : (ltR k).length = k := by simp [ltR]
theorem ltR_wf {k : Nat} (hk : k ≤ 4) : WF (ltR k) := fun i r hr => by
  unfold ltR at hr
  rw [List.getElem?_map] at hr
  obtain ⟨j, hj, rfl⟩ := Option.map_eq_some_iff.1 hr
  have hj2 : j < k := by have := List.mem_of_getElem? hj; simpa using this
  have e : (UInt8.ofNat (97 + j)).toNat = 97 + j := by rw [UInt8.toNat_ofNat']; omega
  exact .inr ⟨_, by simp [letB, e]; omega, rfl, rfl, rfl⟩
theorem ltR_ok {k : Nat} (h0 : 0 < k) (hk : k ≤ 4) {most : Int} (hm : 1 ≤ most) : DgOk (ltR k) most := by
  refine ⟨ltR_wf hk, by rw [ltR_len]; exact h0, by rw [ltR_len]; omega, ?_⟩
  obtain ⟨j, rfl⟩ : ∃ j, k = j + 1 := ⟨k - 1, by omega⟩
  have e : wdN (ltR (j + 1)) = [(UInt8.ofNat (97 + j)).toNat - 97] := by
    unfold wdN
    rw [if_neg (by intro e; have := ltR_len (j + 1); rw [e] at this; simp at this), ltR_len]
    refine wds_one (r := ruleC (UInt8.ofNat (97 + j))) (c := UInt8.ofNat (97 + j)) ?_ rfl
    rw [ltR_succ, List.getElem?_append_right (by rw [ltR_len]; omega), ltR_len]
    simp
  rw [e]; simpa using hm
theorem dg_gok {rs : List Fac} (hwf : WF rs) (hn : rs.length ≤ 15) : (gOk rs).isSome = true := small_ok hwf (by omega)
theorem wf_sz {rs : List Fac} (hwf : WF rs) : ∀ f ∈ rs, f.l.size ≤ maxLen := by
  intro f hf
  obtain ⟨k, hk, rfl⟩ := List.getElem_of_mem hf
  rcases hwf k _ (List.getElem?_eq_getElem hk) with ⟨h0, _⟩ | ⟨c, _, hl, _⟩
  · unfold maxLen; omega
  · rw [hl]; show 1 ≤ maxLen; unfold maxLen; omega
theorem wf_snoc' {rs : List Fac} (h : WF rs) {l r : Int} (l0 : 0 ≤ l) (l1 : l < rs.length) (r0 : 0 ≤ r) (r1 : r < rs.length) : WF (rs ++ [⟨.empty, l, r⟩]) := wf_snoc h ⟨l0, l1⟩ ⟨r0, r1⟩
set_option maxHeartbeats 16000000 in
set_option maxRecDepth 100000 in
theorem l02Drawn_any (g K : Nat) (most : Int) (w : World) (h : Src w g K) (hK : K ≤ 10000000) (hm0 : 1 ≤ most) (hm : most ≤ 100000) :
    Calls Tryd.prog 16 #[.pointer (some ⟨g, 0, none⟩), .int .i64 most] w (GrDraw w g (K + 1000) most) := by
  have hg := h.lt
  have H0 := Lib.hid h; clear h
  go_enter Tryd.func16, Tryd.ntmps16
  go_wp2_with fail
  refine namedC fun w1 H1 => ?_
  have hb1 : Below w.heap.size w w1 := by rw [H1.out]; (repeat first | exact Below.refl _ _ | assumption | refine Below.drew ?_ | refine Below.alloc ?_ (by first | exact Nat.le_refl _ | (simp; done) | omega | (simp; omega)) _ | refine Below.setCell ?_ (by first | exact Nat.le_refl _ | (simp; done) | omega | (simp; omega)) _)
  have P1 := Lib.hid (show DgW w w1 g K none 0 0 [] from ⟨World.ownsRow_nil _ _ _ _, by rw [H1.out]; exact (Blk.new w _ _).alloc _, by rw [H1.out]; simpa using Blk.new (w.alloc (.cells #[.slice none 0 0] 26)) 26 #[.slice none 0 0], H0.out.next hb1, gb_below hb1, hg⟩)
  clear H1 hb1 H0
  refine (pick_any g K 3 3 w1 P1.out.s (by omega) (by omega) (by omega)).mono ?_
  rintro e w2 ⟨v, rfl, v0, v1, s2, g2⟩
  have P2 := Lib.hid (P1.out.pick s2 g2)
  obtain ⟨L, hL⟩ : ∃ L : Nat, 1 + v = L := ⟨(1 + v).toNat, by omega⟩
  have hL1 : 1 ≤ L := by omega
  have hL3 : L ≤ 3 := by omega
  have um : IntKind.i64.wrap (1 + v) = (L : Int) := by rw [IntWalk.i64_in _ (by omega)]; exact hL
  clear s2 g2 P1
  go_wp2_with fail
  have HLL := Lib.hid hL
  clear um hL v0 v1
  go_loopw [7] (fun k_ w' => ∃ (k : Nat) (A : Option Addr) (c : Nat), k_ = .int .i64 k ∧ k ≤ L ∧ Hid (DgW w w' g (K + 2) A k c (ltR k))) (fun k_ _ => L - (intOf k_).toNat)
  case atStart => exact ⟨0, none, 0, rfl, by omega, P2⟩
  case round =>
    obtain ⟨k, A, c, rfl, hk, P⟩ := hrel
    clear P2
    by_cases hlt : k < L
    · have i1 : (k : Int) < (L : Int) := by omega
      obtain ⟨u, hu⟩ : ∃ u : UInt8, UInt8.ofNat (97 + k) = u := ⟨_, rfl⟩
      have hu' : (u.toNat : Int) = 97 + k := by rw [← hu, UInt8.toNat_ofNat']; omega
      have HU := Lib.hid hu
      have d0 := P.out.x.cell 0
      have dl := P.out.x.lt
      have hcv := conv_letter (wr.alloc (.cells #[.int .u8 (97 + (k : Int))] 5)) wr.heap.size 1 u (by rw [hu']; simp)
      have Q2 := Lib.hid (P.out.alloc (.cells #[.int .u8 (97 + (k : Int))] 5))
      have BN0 := Blk.new (wr.alloc (.cells #[.int .u8 (97 + (k : Int))] 5)) 48 #[.string (ruleC u).l, .int .i64 (ruleC u).a, .int .i64 (ruleC u).b]
      have sz4 : (wr.alloc (.cells #[.int .u8 (97 + (k : Int))] 5)).heap.size = wr.heap.size + 1 := by simp
      rw [sz4] at BN0
      have BN := Lib.hid BN0
      clear BN0 sz4
      have Q3 := Lib.hid (Q2.out.alloc (.cells #[.string ⟨#[u]⟩, .int .i64 0, .int .i64 0] 48))
      clear hu hu'
      go_wp2_with
        (at_builtin
         refine wpList_pushG rfl _ _ _ rfl w.heap.size 48 3 32 elem_rule Fac.cells A k c (ltR k) rfl Q3.out.q (wr.heap.size + 1) (ruleC u) #[.string (ruleC u).l, .int .i64 (ruleC u).a, .int .i64 (ruleC u).b] 48 (0, 0) rfl BN.out rfl rfl (one_fac _) (by omega) (by omega) (by unfold maxLen; omega) (by have := Q3.out.x.lt; omega) ?_
         intro A9 c9 w9 own9 hg9 hat9
         have Q9 := Lib.hid (Q3.out.push own9 hg9)
         have G9 := Q3.out.x.grown hg9 (own_blk_ne Q3.out.q Q3.out.x (by decide))
         have f9 := G9.frozen
         have d9 := G9.cell 0
         have l9 := G9.lt
         clear own9 hg9 hat9 G9)
      go_roundw
      case rel => exact ⟨k + 1, A9, c9, by go_num, by omega, Lib.hid (by rw [ltR_succ, HU.out]; exact Q9.out)⟩
      case measure => simp [intOf]; omega
    · obtain rfl : k = L := by omega
      have ok0 := Lib.hid (ltR_ok (most := most) hL1 (by omega) hm0)
      have HLn0 := Lib.hid (ltR_len k)
      go_wp2_with fail
      refine (pick_any g (K + 2) 12 12 wr P.out.s (by omega) (by omega) (by omega)).mono ?_
      rintro e w3 ⟨z, rfl, z0, z1, s3, g3⟩
      have P3 := Lib.hid (P.out.pick s3 g3)
      clear s3 g3 P
      generalize ltR k = rs0 at *
      go_wp2_with fail
      go_loopw [8] (fun z_ w' => ∃ (z : Nat) (A : Option Addr) (n c K2 : Nat) (rs : List Fac), z_ = .int .i64 z ∧ n + z ≤ 14 ∧ 1 ≤ n ∧ K2 + 10 * z ≤ K + 200 ∧ Hid (rs.length = n) ∧ Hid (DgOk rs most) ∧ Hid (DgW w w' g K2 A n c rs)) (fun z_ _ => (intOf z_).toNat)
      case atStart => exact ⟨z.toNat, _, k, _, K + 2 + 2, rs0, by congr 1; omega, by omega, hL1, by omega, HLn0, ok0, P3⟩
      case round =>
        obtain ⟨z, A, n, c, K2, rs, rfl, hnz, hn1, hK2, HLn, HOk, P⟩ := hrel
        clear P3 ok0 HLn0
        have d0 := P.out.x.cell 0
        have dl := P.out.x.lt
        by_cases hz : 0 < z
        · obtain ⟨ga, cap0, hv0, hga0, hga1⟩ := P.out.q.form hn1
          obtain rfl : A = some ⟨ga, 0, none⟩ := by injection hv0
          have z1 : (0 : Int) < (z : Int) := by omega
          clear hv0 hga0 hga1
          go_wp2_with fail
          refine (pick_any g K2 n n wr P.out.s (by omega) (by omega) (by omega)).mono ?_
          rintro e w3 ⟨v1, rfl, v10, v11, s3, g3⟩
          have P3 := Lib.hid (P.out.pick s3 g3)
          clear s3 g3 d0 dl P
          go_wp2_with fail
          refine (pick_any g (K2 + 2) n n w3 P3.out.s (by omega) (by omega) (by omega)).mono ?_
          rintro e w4 ⟨v2, rfl, v20, v21, s4, g4⟩
          have P4 := Lib.hid (P3.out.pick s4 g4)
          clear s4 g4 P3
          go_wp2_with fail
          refine namedC fun w5 H5 => ?_
          have hb5 : Below w4.heap.size w4 w5 := by rw [H5.out]; (repeat first | exact Below.refl _ _ | assumption | refine Below.drew ?_ | refine Below.alloc ?_ (by first | exact Nat.le_refl _ | (simp; done) | omega | (simp; omega)) _ | refine Below.setCell ?_ (by first | exact Nat.le_refl _ | (simp; done) | omega | (simp; omega)) _)
          have BR5 := Lib.hid (show Blk w5 w4.heap.size 48 #[.string .empty, .int .i64 v1, .int .i64 v2] by rw [H5.out]; exact Blk.new _ _ _)
          have P5 := Lib.hid (P4.out.next hb5)
          have gr0 : w.heap.size + 1 < w4.heap.size := P4.out.x.lt
          have gr1 : ga < w4.heap.size := (P4.out.q.lt ga rfl).2
          clear H5 hb5
          generalize hgr : w4.heap.size = gr at *
          clear hgr P4
          have um : IntKind.i64.wrap ((n : Int) - 1) = ((n - 1 : Nat) : Int) := by rw [IntWalk.i64_in _ (by omega)]; omega
          refine (one_any g (K2 + 2 + 2) 2 w5 P5.out.s (by omega) (by omega)).mono ?_
          rintro e w6 ⟨b1, rfl, s6, g6⟩
          have P6 := Lib.hid (P5.out.pick s6 g6)
          have BR6 := Lib.hid (BR5.out.grown g6 (by intro e; injection e with e; omega))
          have c61 := BR6.out.cell 1
          have c6f := BR6.out.frozen
          have c6l := BR6.out.lt
          clear s6 g6 P5 BR5
          go_upto_if 49 with fail
          go_cut [] (fun wx => ∃ l : Int, 0 ≤ l ∧ l < (n : Int) ∧ Hid (DgW w wx g (K2 + 2 + 2 + 2) (some ⟨ga, 0, none⟩) n c rs) ∧ Hid (Blk wx gr 48 #[.string .empty, .int .i64 l, .int .i64 v2]))
          case first =>
            cases b1
            · go_wp2_with fail
              go_meet
              exact ⟨v1, v10, v11, P6, BR6⟩
            · have P7 := Lib.hid (P6.out.keepAt (gb_set w6 gr 1 (.int .i64 ((n - 1 : Nat) : Int))) (by omega) (by omega))
              have BR7 := Lib.hid (BR6.out.set_ 1 (.int .i64 ((n - 1 : Nat) : Int)))
              go_wp2_with fail
              go_meet
              exact ⟨((n - 1 : Nat) : Int), by omega, by omega, P7, BR7⟩
          case rest =>
            obtain ⟨l, l0, l1, P7, BR7⟩ := hcut
            clear P6 BR6 c61 c6f c6l v10 v11
            go_wp2_with fail
            refine (one_any g (K2 + 2 + 2 + 2) 3 wc P7.out.s (by omega) (by omega)).mono ?_
            rintro e w8 ⟨b2, rfl, s8, g8'⟩
            have P8 := Lib.hid (P7.out.pick s8 g8')
            have BR8 := Lib.hid (BR7.out.grown g8' (by intro e; injection e with e; omega))
            have c81 := BR8.out.cell 2
            have c8f := BR8.out.frozen
            have c8l := BR8.out.lt
            clear s8 g8' P7 BR7
            go_upto_if 54 with fail
            go_cut [] (fun wx => ∃ r : Int, 0 ≤ r ∧ r < (n : Int) ∧ Hid (DgW w wx g (K2 + 2 + 2 + 2 + 2) (some ⟨ga, 0, none⟩) n c rs) ∧ Hid (Blk wx gr 48 #[.string .empty, .int .i64 l, .int .i64 r]))
            case first =>
              cases b2
              · go_wp2_with fail
                go_meet
                exact ⟨v2, v20, v21, P8, BR8⟩
              · have P9 := Lib.hid (P8.out.keepAt (gb_set w8 gr 2 (.int .i64 ((n - 1 : Nat) : Int))) (by omega) (by omega))
                have BR9 := Lib.hid (BR8.out.set_ 2 (.int .i64 ((n - 1 : Nat) : Int)))
                go_wp2_with fail
                go_meet
                exact ⟨((n - 1 : Nat) : Int), by omega, by omega, P9, BR9⟩
            case rest =>
              obtain ⟨r, r0, r1, P, BR⟩ := hcut
              clear P8 BR8 c81 c8f c8l um v20 v21
              have hn0 : 0 < n := hn1
              generalize hK3 : K2 + 2 + 2 + 2 + 2 = K3 at *
              go_upto_region 16 with fail
              go_cut [11] (fun p_ wx => ∃ (g8 : Nat) (A6 : Option Addr) (c6 : Nat), p_ = .pointer (some ⟨g8, 0, none⟩) ∧ Hid (DgW w wx g K3 (some ⟨ga, 0, none⟩) n c rs) ∧ Hid (Blk wx g8 26 #[.slice A6 (n + 1) c6]) ∧
                Hid (wx.ownsRow w.heap.size 48 3 (.slice A6 (n + 1) c6) (n + 1) ((rs ++ [(⟨.empty, l, r⟩ : Fac)]).flatMap Fac.cells)) ∧ Hid (w.heap.size + 1 < g8))
              case first =>
                refine wp_region_N (fun W' => W'.cell? ⟨w.heap.size + 1, 0, none⟩ = some (.slice (some ⟨ga, 0, none⟩) n c) ∧ W'.cell? ⟨gr, 0, none⟩ = some (.string .empty) ∧ W'.cell? ⟨gr, 1, none⟩ = some (.int .i64 l) ∧ W'.cell? ⟨gr, 2, none⟩ = some (.int .i64 r)) [6, 7, 9] (by kernel_rfl) ?_
                have P_0 := Lib.hid (P.out.next (Below.refl _ _).drew)
                have BR_0 := Lib.hid BR.out.drew
                have hS0 : wc.drew.cell? ⟨w.heap.size + 1, 0, none⟩ = some (.slice (some ⟨ga, 0, none⟩) n c) ∧ wc.drew.cell? ⟨gr, 0, none⟩ = some (.string .empty) ∧ wc.drew.cell? ⟨gr, 1, none⟩ = some (.int .i64 l) ∧ wc.drew.cell? ⟨gr, 2, none⟩ = some (.int .i64 r) := ⟨P_0.out.x.cell 0, BR_0.out.three⟩
                have Hnews := Lib.hid (fun W (h : DgW w W g K3 (some ⟨ga, 0, none⟩) n c rs) => h.news)
                generalize wc.drew = wd at *
                refine wpAnyN_take (i := 1) (v := ?_) rfl (by kernel_rfl) (fun _ _ _ h => h) (by rfl) (fun W hW => ?_) hS0 ?_
                rotate_left
                · obtain ⟨z0, z1, z2, z3⟩ := hW
                  go_simp
                  try with_reducible rfl
                try simp only [List.getElem_toArray, List.getElem_cons_zero, List.getElem_cons_succ, Act.put, List.setIfInBounds_toArray, List.set_cons_zero, List.set_cons_succ]
                refine wpAnyN_take (i := 2) (v := ?_) rfl (by kernel_rfl) (fun _ _ _ h => h) (by rfl) (fun W hW => ?_) hS0 ?_
                rotate_left
                · obtain ⟨z0, z1, z2, z3⟩ := hW
                  go_simp
                  try with_reducible rfl
                try simp only [List.getElem_toArray, List.getElem_cons_zero, List.getElem_cons_succ, Act.put, List.setIfInBounds_toArray, List.set_cons_zero, List.set_cons_succ]
                refine wpAnyN_take (i := 4) (v := ?_) rfl (by kernel_rfl) (fun _ _ _ h => h) (by rfl) (fun W hW => ?_) hS0 ?_
                rotate_left
                · obtain ⟨z0, z1, z2, z3⟩ := hW
                  go_simp
                  try with_reducible rfl
                try simp only [List.getElem_toArray, List.getElem_cons_zero, List.getElem_cons_succ, Act.put, List.setIfInBounds_toArray, List.set_cons_zero, List.set_cons_succ]
                clear hS0
                refine wpAnyN_3 (i := 0) (j := 5) (l := 8) rfl rfl rfl (by kernel_rfl) ?_ ?_ ?_
                · intro Kc hK
                  go_simp
                  have P_1 := Lib.hid (P_0.out.alloc (.cells #[] 48))
                  have BR_1 := Lib.hid (BR_0.out.alloc (.cells #[] 48))
                  have OE_1 := Lib.hid (World.ownsRow_made (base := w.heap.size) (e := 48) (size := 3) wd #[] 0 (by have := P_0.out.x.lt; omega) (by unfold maxLen; omega) rfl)
                  have ne0_gr : gr < wd.heap.size := BR_0.out.lt
                  have ne0_ga : ga < wd.heap.size := (P_0.out.q.lt ga rfl).2
                  have e0_low : w.heap.size + 1 < wd.heap.size := P_0.out.x.lt
                  refine hK.out _ _ (fun _ => ⟨P_1.out.x.cell 0, BR_1.out.three⟩) ?_
                  clear hK Kc
                  try simp only [List.getElem_toArray, List.getElem_cons_zero, List.getElem_cons_succ, Act.put, List.setIfInBounds_toArray, List.set_cons_zero, List.set_cons_succ]
                  generalize wd.heap.size = e0 at *
                  generalize wd.alloc (.cells #[] 48) = x1 at *
                  clear P_0 BR_0
                  refine wpAnyN_3 (i := 3) (j := 5) (l := 8) rfl rfl rfl (by kernel_rfl) ?_ ?_ ?_
                  · intro Kc hK
                    refine step_copyL (by rfl) _ _ _ (by rfl) w.heap.size 48 3 32 elem_rule Fac.cells e0 (by rfl) OE_1.out ⟨ga, 0, none⟩ n c rs (by rfl) HLn.out hn0 (Hnews.out _ P_1.out) (fun x _ => fac_len x) (fun x _ => one_fac x) (by omega) (by omega) (by unfold maxLen; omega) P_1.out.e.size ?_
                    intro A3 c3 x2 own3 hg3 at3
                    obtain ⟨o3, cap3, hv3, _, _⟩ := own3.form hn0
                    obtain rfl : A3 = some ⟨o3, 0, none⟩ := by injection hv3
                    have h3_gr : gr < x1.heap.size := BR_1.out.lt
                    have h3_ga : ga < x1.heap.size := (P_1.out.q.lt ga rfl).2
                    have at3 : o3 = e0 ∨ o3 = x1.heap.size := at3.imp (fun h => Option.some.inj h) (fun h => Option.some.inj h)
                    have o3_low : w.heap.size + 1 < o3 := by have h := P_1.out.x.lt; rcases at3 with h3 | h3 <;> omega
                    have o3_gr : gr ≠ o3 := by rcases at3 with h3 | h3 <;> omega
                    have o3_ga : ga ≠ o3 := by rcases at3 with h3 | h3 <;> omega
                    have P_2 := Lib.hid (P_1.out.keepAt hg3 (show w.heap.size + 2 ≤ e0 by omega) (by omega))
                    have BR_2 := Lib.hid (BR_1.out.grown hg3 (by intro e; injection e with e; omega))
                    have OC_2 := Lib.hid own3
                    refine hK.out _ _ (fun _ => ⟨P_2.out.x.cell 0, BR_2.out.three⟩) ?_
                    clear hK Kc own3 hg3 at3 hv3 h3_gr h3_ga
                    try simp only [List.getElem_toArray, List.getElem_cons_zero, List.getElem_cons_succ, Act.put, List.setIfInBounds_toArray, List.set_cons_zero, List.set_cons_succ]
                    clear P_1 BR_1 OE_1
                    refine wpAnyN_2 (i := 5) (j := 8) rfl rfl (by kernel_rfl) ?_ ?_
                    · intro Kc hK
                      go_simp
                      have P_3 := Lib.hid (P_2.out.alloc (.cells #[.string .empty, .int .i64 l, .int .i64 r] 48))
                      have BR_3 := Lib.hid (BR_2.out.alloc (.cells #[.string .empty, .int .i64 l, .int .i64 r] 48))
                      have OC_3 := Lib.hid (OC_2.out.alloc (.cells #[.string .empty, .int .i64 l, .int .i64 r] 48))
                      have B5_3 := Lib.hid (Blk.new x2 48 #[.string .empty, .int .i64 l, .int .i64 r])
                      have ng5_gr : gr < x2.heap.size := BR_2.out.lt
                      have ng5_ga : ga < x2.heap.size := (P_2.out.q.lt ga rfl).2
                      have ng5_o3 : o3 < x2.heap.size := (OC_2.out.lt o3 rfl).2
                      have g5_low : w.heap.size + 1 < x2.heap.size := P_2.out.x.lt
                      refine hK.out _ _ (fun _ => ⟨P_3.out.x.cell 0, BR_3.out.three⟩) ?_
                      clear hK Kc
                      try simp only [List.getElem_toArray, List.getElem_cons_zero, List.getElem_cons_succ, Act.put, List.setIfInBounds_toArray, List.set_cons_zero, List.set_cons_succ]
                      generalize x2.heap.size = g5 at *
                      generalize x2.alloc (.cells #[.string .empty, .int .i64 l, .int .i64 r] 48) = x3 at *
                      clear P_2 BR_2 OC_2
                      refine wpAnyN_2 (i := 6) (j := 8) rfl rfl (by kernel_rfl) ?_ ?_
                      · intro Kc hK
                        refine step_pushL (by rfl) _ _ _ (by rfl) w.heap.size 48 3 32 elem_rule Fac.cells (some ⟨o3, 0, none⟩) n c3 rs (by rfl) OC_3.out g5 ⟨⟨#[]⟩, l, r⟩ #[.string .empty, .int .i64 l, .int .i64 r] 48 (0, 0) (by rfl) B5_3.out rfl rfl (one_fac _) (by omega) (by omega) (by unfold maxLen; omega) P_3.out.e.size ?_
                        intro A6 c6 x4 own6 hg6 at6
                        have P_4 := Lib.hid (P_3.out.keepAt hg6 (show w.heap.size + 2 ≤ o3 by omega) (by omega))
                        have BR_4 := Lib.hid (BR_3.out.grown hg6 (by intro e; have e2 : some gr = some o3 := e; injection e2 with e2; omega))
                        have O6_4 := Lib.hid own6
                        refine hK.out _ _ (fun h => absurd h (by decide)) ?_
                        clear hK Kc own6 hg6 at6
                        try simp only [List.getElem_toArray, List.getElem_cons_zero, List.getElem_cons_succ, Act.put, List.setIfInBounds_toArray, List.set_cons_zero, List.set_cons_succ]
                        clear P_3 BR_3 OC_3 B5_3
                        refine wpAnyN_2 (i := 7) (j := 8) rfl rfl (by kernel_rfl) ?_ ?_
                        · intro Kc hK
                          go_simp
                          refine hK.out _ _ (fun h => absurd h (by decide)) ?_
                          clear hK Kc
                          try simp only [List.getElem_toArray, List.getElem_cons_zero, List.getElem_cons_succ, Act.put, List.setIfInBounds_toArray, List.set_cons_zero, List.set_cons_succ]
                          refine wpAnyN_next (i := 8) rfl (by kernel_rfl) (fun Kc hK => ?_)
                          go_simp
                          have P_6 := Lib.hid (P_4.out.alloc (.cells #[.slice none 0 0] 26))
                          have BR_6 := Lib.hid (BR_4.out.alloc (.cells #[.slice none 0 0] 26))
                          have O6_6 := Lib.hid (O6_4.out.alloc (.cells #[.slice none 0 0] 26))
                          have BL_6 := Lib.hid (Blk.new x4 26 #[.slice none 0 0])
                          have ng8_gr : gr < x4.heap.size := BR_4.out.lt
                          have ng8_ga : ga < x4.heap.size := (P_4.out.q.lt ga rfl).2
                          have g8_low : w.heap.size + 1 < x4.heap.size := P_4.out.x.lt
                          refine hK.out _ _ (fun _ => ⟨P_6.out.x.cell 0, BR_6.out.three⟩) ?_
                          clear hK Kc
                          try simp only [List.getElem_toArray, List.getElem_cons_zero, List.getElem_cons_succ, Act.put, List.setIfInBounds_toArray, List.set_cons_zero, List.set_cons_succ]
                          generalize x4.heap.size = g8 at *
                          generalize x4.alloc (.cells #[.slice none 0 0] 26) = x6 at *
                          clear P_4 BR_4 O6_4
                          refine wpAnyN_next (i := 9) rfl (by kernel_rfl) (fun Kc hK => ?_)
                          have b9c := BL_6.out.cell 0
                          have b9f := BL_6.out.frozen
                          have b9l := BL_6.out.lt
                          go_simp
                          have P_7 := Lib.hid (P_6.out.keepAt (gb_set x6 g8 0 (.slice A6 (n + 1) c6)) (show w.heap.size + 2 ≤ g8 by omega) (by omega))
                          have BL_7 := Lib.hid (BL_6.out.set_ 0 (.slice A6 (n + 1) c6))
                          have O6_7 := Lib.hid (own_kept' (i := 0) O6_6.out BL_6.out (by decide) (.slice A6 (n + 1) c6))
                          refine hK.out _ _ (fun h => absurd h (by decide)) ?_
                          clear hK Kc b9c b9f b9l
                          try simp only [List.getElem_toArray, List.getElem_cons_zero, List.getElem_cons_succ, Act.put, List.setIfInBounds_toArray, List.set_cons_zero, List.set_cons_succ]
                          refine wpAnyN_done (by kernel_rfl) ?_ _
                          go_wp2_with fail
                          go_meet
                          exact ⟨g8, A6, c6, rfl, P_7, BL_7, O6_7, Lib.hid g8_low⟩
                        · intro Kc hK
                          go_simp
                          have P_8 := Lib.hid (P_4.out.alloc (.cells #[.slice none 0 0] 26))
                          have BR_8 := Lib.hid (BR_4.out.alloc (.cells #[.slice none 0 0] 26))
                          have O6_8 := Lib.hid (O6_4.out.alloc (.cells #[.slice none 0 0] 26))
                          have BL_8 := Lib.hid (Blk.new x4 26 #[.slice none 0 0])
                          have ng8_gr : gr < x4.heap.size := BR_4.out.lt
                          have ng8_ga : ga < x4.heap.size := (P_4.out.q.lt ga rfl).2
                          have g8_low : w.heap.size + 1 < x4.heap.size := P_4.out.x.lt
                          refine hK.out _ _ (fun _ => ⟨P_8.out.x.cell 0, BR_8.out.three⟩) ?_
                          clear hK Kc
                          try simp only [List.getElem_toArray, List.getElem_cons_zero, List.getElem_cons_succ, Act.put, List.setIfInBounds_toArray, List.set_cons_zero, List.set_cons_succ]
                          generalize x4.heap.size = g8 at *
                          generalize x4.alloc (.cells #[.slice none 0 0] 26) = x8 at *
                          clear P_4 BR_4 O6_4
                          refine wpAnyN_next (i := 7) rfl (by kernel_rfl) (fun Kc hK => ?_)
                          go_simp
                          refine hK.out _ _ (fun h => absurd h (by decide)) ?_
                          clear hK Kc
                          try simp only [List.getElem_toArray, List.getElem_cons_zero, List.getElem_cons_succ, Act.put, List.setIfInBounds_toArray, List.set_cons_zero, List.set_cons_succ]
                          refine wpAnyN_next (i := 9) rfl (by kernel_rfl) (fun Kc hK => ?_)
                          have b9c := BL_8.out.cell 0
                          have b9f := BL_8.out.frozen
                          have b9l := BL_8.out.lt
                          go_simp
                          have P_10 := Lib.hid (P_8.out.keepAt (gb_set x8 g8 0 (.slice A6 (n + 1) c6)) (show w.heap.size + 2 ≤ g8 by omega) (by omega))
                          have BL_10 := Lib.hid (BL_8.out.set_ 0 (.slice A6 (n + 1) c6))
                          have O6_10 := Lib.hid (own_kept' (i := 0) O6_8.out BL_8.out (by decide) (.slice A6 (n + 1) c6))
                          refine hK.out _ _ (fun h => absurd h (by decide)) ?_
                          clear hK Kc b9c b9f b9l
                          try simp only [List.getElem_toArray, List.getElem_cons_zero, List.getElem_cons_succ, Act.put, List.setIfInBounds_toArray, List.set_cons_zero, List.set_cons_succ]
                          refine wpAnyN_done (by kernel_rfl) ?_ _
                          go_wp2_with fail
                          go_meet
                          exact ⟨g8, A6, c6, rfl, P_10, BL_10, O6_10, Lib.hid g8_low⟩
                      · intro Kc hK
                        go_simp
                        have P_11 := Lib.hid (P_3.out.alloc (.cells #[.slice none 0 0] 26))
                        have BR_11 := Lib.hid (BR_3.out.alloc (.cells #[.slice none 0 0] 26))
                        have OC_11 := Lib.hid (OC_3.out.alloc (.cells #[.slice none 0 0] 26))
                        have B5_11 := Lib.hid (B5_3.out.alloc (.cells #[.slice none 0 0] 26))
                        have BL_11 := Lib.hid (Blk.new x3 26 #[.slice none 0 0])
                        have ng8_gr : gr < x3.heap.size := BR_3.out.lt
                        have ng8_ga : ga < x3.heap.size := (P_3.out.q.lt ga rfl).2
                        have ng8_o3 : o3 < x3.heap.size := (OC_3.out.lt o3 rfl).2
                        have ng8_g5 : g5 < x3.heap.size := B5_3.out.lt
                        have g8_low : w.heap.size + 1 < x3.heap.size := P_3.out.x.lt
                        refine hK.out _ _ (fun _ => ⟨P_11.out.x.cell 0, BR_11.out.three⟩) ?_
                        clear hK Kc
                        try simp only [List.getElem_toArray, List.getElem_cons_zero, List.getElem_cons_succ, Act.put, List.setIfInBounds_toArray, List.set_cons_zero, List.set_cons_succ]
                        generalize x3.heap.size = g8 at *
                        generalize x3.alloc (.cells #[.slice none 0 0] 26) = x11 at *
                        clear P_3 BR_3 OC_3 B5_3
                        refine wpAnyN_next (i := 6) rfl (by kernel_rfl) (fun Kc hK => ?_)
                        refine step_pushL (by rfl) _ _ _ (by rfl) w.heap.size 48 3 32 elem_rule Fac.cells (some ⟨o3, 0, none⟩) n c3 rs (by rfl) OC_11.out g5 ⟨⟨#[]⟩, l, r⟩ #[.string .empty, .int .i64 l, .int .i64 r] 48 (0, 0) (by rfl) B5_11.out rfl rfl (one_fac _) (by omega) (by omega) (by unfold maxLen; omega) P_11.out.e.size ?_
                        intro A6 c6 x12 own6 hg6 at6
                        have P_12 := Lib.hid (P_11.out.keepAt hg6 (show w.heap.size + 2 ≤ o3 by omega) (by omega))
                        have BR_12 := Lib.hid (BR_11.out.grown hg6 (by intro e; have e2 : some gr = some o3 := e; injection e2 with e2; omega))
                        have BL_12 := Lib.hid (BL_11.out.grown hg6 (by intro e; have e2 : some g8 = some o3 := e; injection e2 with e2; omega))
                        have O6_12 := Lib.hid own6
                        refine hK.out _ _ (fun h => absurd h (by decide)) ?_
                        clear hK Kc own6 hg6 at6
                        try simp only [List.getElem_toArray, List.getElem_cons_zero, List.getElem_cons_succ, Act.put, List.setIfInBounds_toArray, List.set_cons_zero, List.set_cons_succ]
                        clear P_11 BR_11 OC_11 B5_11 BL_11
                        refine wpAnyN_next (i := 7) rfl (by kernel_rfl) (fun Kc hK => ?_)
                        go_simp
                        refine hK.out _ _ (fun h => absurd h (by decide)) ?_
                        clear hK Kc
                        try simp only [List.getElem_toArray, List.getElem_cons_zero, List.getElem_cons_succ, Act.put, List.setIfInBounds_toArray, List.set_cons_zero, List.set_cons_succ]
                        refine wpAnyN_next (i := 9) rfl (by kernel_rfl) (fun Kc hK => ?_)
                        have b9c := BL_12.out.cell 0
                        have b9f := BL_12.out.frozen
                        have b9l := BL_12.out.lt
                        go_simp
                        have P_14 := Lib.hid (P_12.out.keepAt (gb_set x12 g8 0 (.slice A6 (n + 1) c6)) (show w.heap.size + 2 ≤ g8 by omega) (by omega))
                        have BL_14 := Lib.hid (BL_12.out.set_ 0 (.slice A6 (n + 1) c6))
                        have O6_14 := Lib.hid (own_kept' (i := 0) O6_12.out BL_12.out (by decide) (.slice A6 (n + 1) c6))
                        refine hK.out _ _ (fun h => absurd h (by decide)) ?_
                        clear hK Kc b9c b9f b9l
                        try simp only [List.getElem_toArray, List.getElem_cons_zero, List.getElem_cons_succ, Act.put, List.setIfInBounds_toArray, List.set_cons_zero, List.set_cons_succ]
                        refine wpAnyN_done (by kernel_rfl) ?_ _
                        go_wp2_with fail
                        go_meet
                        exact ⟨g8, A6, c6, rfl, P_14, BL_14, O6_14, Lib.hid g8_low⟩
                    · intro Kc hK
                      go_simp
                      have P_15 := Lib.hid (P_2.out.alloc (.cells #[.slice none 0 0] 26))
                      have BR_15 := Lib.hid (BR_2.out.alloc (.cells #[.slice none 0 0] 26))
                      have OC_15 := Lib.hid (OC_2.out.alloc (.cells #[.slice none 0 0] 26))
                      have BL_15 := Lib.hid (Blk.new x2 26 #[.slice none 0 0])
                      have ng8_gr : gr < x2.heap.size := BR_2.out.lt
                      have ng8_ga : ga < x2.heap.size := (P_2.out.q.lt ga rfl).2
                      have ng8_o3 : o3 < x2.heap.size := (OC_2.out.lt o3 rfl).2
                      have g8_low : w.heap.size + 1 < x2.heap.size := P_2.out.x.lt
                      refine hK.out _ _ (fun _ => ⟨P_15.out.x.cell 0, BR_15.out.three⟩) ?_
                      clear hK Kc
                      try simp only [List.getElem_toArray, List.getElem_cons_zero, List.getElem_cons_succ, Act.put, List.setIfInBounds_toArray, List.set_cons_zero, List.set_cons_succ]
                      generalize x2.heap.size = g8 at *
                      generalize x2.alloc (.cells #[.slice none 0 0] 26) = x15 at *
                      clear P_2 BR_2 OC_2
                      refine wpAnyN_next (i := 5) rfl (by kernel_rfl) (fun Kc hK => ?_)
                      go_simp
                      have P_16 := Lib.hid (P_15.out.alloc (.cells #[.string .empty, .int .i64 l, .int .i64 r] 48))
                      have BR_16 := Lib.hid (BR_15.out.alloc (.cells #[.string .empty, .int .i64 l, .int .i64 r] 48))
                      have OC_16 := Lib.hid (OC_15.out.alloc (.cells #[.string .empty, .int .i64 l, .int .i64 r] 48))
                      have BL_16 := Lib.hid (BL_15.out.alloc (.cells #[.string .empty, .int .i64 l, .int .i64 r] 48))
                      have B5_16 := Lib.hid (Blk.new x15 48 #[.string .empty, .int .i64 l, .int .i64 r])
                      have ng5_gr : gr < x15.heap.size := BR_15.out.lt
                      have ng5_ga : ga < x15.heap.size := (P_15.out.q.lt ga rfl).2
                      have ng5_o3 : o3 < x15.heap.size := (OC_15.out.lt o3 rfl).2
                      have ng5_g8 : g8 < x15.heap.size := BL_15.out.lt
                      have g5_low : w.heap.size + 1 < x15.heap.size := P_15.out.x.lt
                      refine hK.out _ _ (fun _ => ⟨P_16.out.x.cell 0, BR_16.out.three⟩) ?_
                      clear hK Kc
                      try simp only [List.getElem_toArray, List.getElem_cons_zero, List.getElem_cons_succ, Act.put, List.setIfInBounds_toArray, List.set_cons_zero, List.set_cons_succ]
                      generalize x15.heap.size = g5 at *
                      generalize x15.alloc (.cells #[.string .empty, .int .i64 l, .int .i64 r] 48) = x16 at *
                      clear P_15 BR_15 OC_15 BL_15
                      refine wpAnyN_next (i := 6) rfl (by kernel_rfl) (fun Kc hK => ?_)
                      refine step_pushL (by rfl) _ _ _ (by rfl) w.heap.size 48 3 32 elem_rule Fac.cells (some ⟨o3, 0, none⟩) n c3 rs (by rfl) OC_16.out g5 ⟨⟨#[]⟩, l, r⟩ #[.string .empty, .int .i64 l, .int .i64 r] 48 (0, 0) (by rfl) B5_16.out rfl rfl (one_fac _) (by omega) (by omega) (by unfold maxLen; omega) P_16.out.e.size ?_
                      intro A6 c6 x17 own6 hg6 at6
                      have P_17 := Lib.hid (P_16.out.keepAt hg6 (show w.heap.size + 2 ≤ o3 by omega) (by omega))
                      have BR_17 := Lib.hid (BR_16.out.grown hg6 (by intro e; have e2 : some gr = some o3 := e; injection e2 with e2; omega))
                      have BL_17 := Lib.hid (BL_16.out.grown hg6 (by intro e; have e2 : some g8 = some o3 := e; injection e2 with e2; omega))
                      have O6_17 := Lib.hid own6
                      refine hK.out _ _ (fun h => absurd h (by decide)) ?_
                      clear hK Kc own6 hg6 at6
                      try simp only [List.getElem_toArray, List.getElem_cons_zero, List.getElem_cons_succ, Act.put, List.setIfInBounds_toArray, List.set_cons_zero, List.set_cons_succ]
                      clear P_16 BR_16 OC_16 B5_16 BL_16
                      refine wpAnyN_next (i := 7) rfl (by kernel_rfl) (fun Kc hK => ?_)
                      go_simp
                      refine hK.out _ _ (fun h => absurd h (by decide)) ?_
                      clear hK Kc
                      try simp only [List.getElem_toArray, List.getElem_cons_zero, List.getElem_cons_succ, Act.put, List.setIfInBounds_toArray, List.set_cons_zero, List.set_cons_succ]
                      refine wpAnyN_next (i := 9) rfl (by kernel_rfl) (fun Kc hK => ?_)
                      have b9c := BL_17.out.cell 0
                      have b9f := BL_17.out.frozen
                      have b9l := BL_17.out.lt
                      go_simp
                      have P_19 := Lib.hid (P_17.out.keepAt (gb_set x17 g8 0 (.slice A6 (n + 1) c6)) (show w.heap.size + 2 ≤ g8 by omega) (by omega))
                      have BL_19 := Lib.hid (BL_17.out.set_ 0 (.slice A6 (n + 1) c6))
                      have O6_19 := Lib.hid (own_kept' (i := 0) O6_17.out BL_17.out (by decide) (.slice A6 (n + 1) c6))
                      refine hK.out _ _ (fun h => absurd h (by decide)) ?_
                      clear hK Kc b9c b9f b9l
                      try simp only [List.getElem_toArray, List.getElem_cons_zero, List.getElem_cons_succ, Act.put, List.setIfInBounds_toArray, List.set_cons_zero, List.set_cons_succ]
                      refine wpAnyN_done (by kernel_rfl) ?_ _
                      go_wp2_with fail
                      go_meet
                      exact ⟨g8, A6, c6, rfl, P_19, BL_19, O6_19, Lib.hid g8_low⟩
                  · intro Kc hK
                    go_simp
                    have P_20 := Lib.hid (P_1.out.alloc (.cells #[.string .empty, .int .i64 l, .int .i64 r] 48))
                    have BR_20 := Lib.hid (BR_1.out.alloc (.cells #[.string .empty, .int .i64 l, .int .i64 r] 48))
                    have OE_20 := Lib.hid (OE_1.out.alloc (.cells #[.string .empty, .int .i64 l, .int .i64 r] 48))
                    have B5_20 := Lib.hid (Blk.new x1 48 #[.string .empty, .int .i64 l, .int .i64 r])
                    have ng5_gr : gr < x1.heap.size := BR_1.out.lt
                    have ng5_ga : ga < x1.heap.size := (P_1.out.q.lt ga rfl).2
                    have ng5_e0 : e0 < x1.heap.size := (OE_1.out.lt e0 rfl).2
                    have g5_low : w.heap.size + 1 < x1.heap.size := P_1.out.x.lt
                    refine hK.out _ _ (fun _ => ⟨P_20.out.x.cell 0, BR_20.out.three⟩) ?_
                    clear hK Kc
                    try simp only [List.getElem_toArray, List.getElem_cons_zero, List.getElem_cons_succ, Act.put, List.setIfInBounds_toArray, List.set_cons_zero, List.set_cons_succ]
                    generalize x1.heap.size = g5 at *
                    generalize x1.alloc (.cells #[.string .empty, .int .i64 l, .int .i64 r] 48) = x20 at *
                    clear P_1 BR_1 OE_1
                    refine wpAnyN_2 (i := 3) (j := 8) rfl rfl (by kernel_rfl) ?_ ?_
                    · intro Kc hK
                      refine step_copyL (by rfl) _ _ _ (by rfl) w.heap.size 48 3 32 elem_rule Fac.cells e0 (by rfl) OE_20.out ⟨ga, 0, none⟩ n c rs (by rfl) HLn.out hn0 (Hnews.out _ P_20.out) (fun x _ => fac_len x) (fun x _ => one_fac x) (by omega) (by omega) (by unfold maxLen; omega) P_20.out.e.size ?_
                      intro A3 c3 x21 own3 hg3 at3
                      obtain ⟨o3, cap3, hv3, _, _⟩ := own3.form hn0
                      obtain rfl : A3 = some ⟨o3, 0, none⟩ := by injection hv3
                      have h3_gr : gr < x20.heap.size := BR_20.out.lt
                      have h3_ga : ga < x20.heap.size := (P_20.out.q.lt ga rfl).2
                      have h3_g5 : g5 < x20.heap.size := B5_20.out.lt
                      have at3 : o3 = e0 ∨ o3 = x20.heap.size := at3.imp (fun h => Option.some.inj h) (fun h => Option.some.inj h)
                      have o3_low : w.heap.size + 1 < o3 := by have h := P_20.out.x.lt; rcases at3 with h3 | h3 <;> omega
                      have o3_gr : gr ≠ o3 := by rcases at3 with h3 | h3 <;> omega
                      have o3_ga : ga ≠ o3 := by rcases at3 with h3 | h3 <;> omega
                      have o3_g5 : g5 ≠ o3 := by rcases at3 with h3 | h3 <;> omega
                      have P_21 := Lib.hid (P_20.out.keepAt hg3 (show w.heap.size + 2 ≤ e0 by omega) (by omega))
                      have BR_21 := Lib.hid (BR_20.out.grown hg3 (by intro e; injection e with e; omega))
                      have B5_21 := Lib.hid (B5_20.out.grown hg3 (by intro e; injection e with e; omega))
                      have OC_21 := Lib.hid own3
                      refine hK.out _ _ (fun _ => ⟨P_21.out.x.cell 0, BR_21.out.three⟩) ?_
                      clear hK Kc own3 hg3 at3 hv3 h3_gr h3_ga h3_g5
                      try simp only [List.getElem_toArray, List.getElem_cons_zero, List.getElem_cons_succ, Act.put, List.setIfInBounds_toArray, List.set_cons_zero, List.set_cons_succ]
                      clear P_20 BR_20 OE_20 B5_20
                      refine wpAnyN_2 (i := 6) (j := 8) rfl rfl (by kernel_rfl) ?_ ?_
                      · intro Kc hK
                        refine step_pushL (by rfl) _ _ _ (by rfl) w.heap.size 48 3 32 elem_rule Fac.cells (some ⟨o3, 0, none⟩) n c3 rs (by rfl) OC_21.out g5 ⟨⟨#[]⟩, l, r⟩ #[.string .empty, .int .i64 l, .int .i64 r] 48 (0, 0) (by rfl) B5_21.out rfl rfl (one_fac _) (by omega) (by omega) (by unfold maxLen; omega) P_21.out.e.size ?_
                        intro A6 c6 x22 own6 hg6 at6
                        have P_22 := Lib.hid (P_21.out.keepAt hg6 (show w.heap.size + 2 ≤ o3 by omega) (by omega))
                        have BR_22 := Lib.hid (BR_21.out.grown hg6 (by intro e; have e2 : some gr = some o3 := e; injection e2 with e2; omega))
                        have O6_22 := Lib.hid own6
                        refine hK.out _ _ (fun h => absurd h (by decide)) ?_
                        clear hK Kc own6 hg6 at6
                        try simp only [List.getElem_toArray, List.getElem_cons_zero, List.getElem_cons_succ, Act.put, List.setIfInBounds_toArray, List.set_cons_zero, List.set_cons_succ]
                        clear P_21 BR_21 OC_21 B5_21
                        refine wpAnyN_2 (i := 7) (j := 8) rfl rfl (by kernel_rfl) ?_ ?_
                        · intro Kc hK
                          go_simp
                          refine hK.out _ _ (fun h => absurd h (by decide)) ?_
                          clear hK Kc
                          try simp only [List.getElem_toArray, List.getElem_cons_zero, List.getElem_cons_succ, Act.put, List.setIfInBounds_toArray, List.set_cons_zero, List.set_cons_succ]
                          refine wpAnyN_next (i := 8) rfl (by kernel_rfl) (fun Kc hK => ?_)
                          go_simp
                          have P_24 := Lib.hid (P_22.out.alloc (.cells #[.slice none 0 0] 26))
                          have BR_24 := Lib.hid (BR_22.out.alloc (.cells #[.slice none 0 0] 26))
                          have O6_24 := Lib.hid (O6_22.out.alloc (.cells #[.slice none 0 0] 26))
                          have BL_24 := Lib.hid (Blk.new x22 26 #[.slice none 0 0])
                          have ng8_gr : gr < x22.heap.size := BR_22.out.lt
                          have ng8_ga : ga < x22.heap.size := (P_22.out.q.lt ga rfl).2
                          have g8_low : w.heap.size + 1 < x22.heap.size := P_22.out.x.lt
                          refine hK.out _ _ (fun _ => ⟨P_24.out.x.cell 0, BR_24.out.three⟩) ?_
                          clear hK Kc
                          try simp only [List.getElem_toArray, List.getElem_cons_zero, List.getElem_cons_succ, Act.put, List.setIfInBounds_toArray, List.set_cons_zero, List.set_cons_succ]
                          generalize x22.heap.size = g8 at *
                          generalize x22.alloc (.cells #[.slice none 0 0] 26) = x24 at *
                          clear P_22 BR_22 O6_22
                          refine wpAnyN_next (i := 9) rfl (by kernel_rfl) (fun Kc hK => ?_)
                          have b9c := BL_24.out.cell 0
                          have b9f := BL_24.out.frozen
                          have b9l := BL_24.out.lt
                          go_simp
                          have P_25 := Lib.hid (P_24.out.keepAt (gb_set x24 g8 0 (.slice A6 (n + 1) c6)) (show w.heap.size + 2 ≤ g8 by omega) (by omega))
                          have BL_25 := Lib.hid (BL_24.out.set_ 0 (.slice A6 (n + 1) c6))
                          have O6_25 := Lib.hid (own_kept' (i := 0) O6_24.out BL_24.out (by decide) (.slice A6 (n + 1) c6))
                          refine hK.out _ _ (fun h => absurd h (by decide)) ?_
                          clear hK Kc b9c b9f b9l
                          try simp only [List.getElem_toArray, List.getElem_cons_zero, List.getElem_cons_succ, Act.put, List.setIfInBounds_toArray, List.set_cons_zero, List.set_cons_succ]
                          refine wpAnyN_done (by kernel_rfl) ?_ _
                          go_wp2_with fail
                          go_meet
                          exact ⟨g8, A6, c6, rfl, P_25, BL_25, O6_25, Lib.hid g8_low⟩
                        · intro Kc hK
                          go_simp
                          have P_26 := Lib.hid (P_22.out.alloc (.cells #[.slice none 0 0] 26))
                          have BR_26 := Lib.hid (BR_22.out.alloc (.cells #[.slice none 0 0] 26))
                          have O6_26 := Lib.hid (O6_22.out.alloc (.cells #[.slice none 0 0] 26))
                          have BL_26 := Lib.hid (Blk.new x22 26 #[.slice none 0 0])
                          have ng8_gr : gr < x22.heap.size := BR_22.out.lt
                          have ng8_ga : ga < x22.heap.size := (P_22.out.q.lt ga rfl).2
                          have g8_low : w.heap.size + 1 < x22.heap.size := P_22.out.x.lt
                          refine hK.out _ _ (fun _ => ⟨P_26.out.x.cell 0, BR_26.out.three⟩) ?_
                          clear hK Kc
                          try simp only [List.getElem_toArray, List.getElem_cons_zero, List.getElem_cons_succ, Act.put, List.setIfInBounds_toArray, List.set_cons_zero, List.set_cons_succ]
                          generalize x22.heap.size = g8 at *
                          generalize x22.alloc (.cells #[.slice none 0 0] 26) = x26 at *
                          clear P_22 BR_22 O6_22
                          refine wpAnyN_next (i := 7) rfl (by kernel_rfl) (fun Kc hK => ?_)
                          go_simp
                          refine hK.out _ _ (fun h => absurd h (by decide)) ?_
                          clear hK Kc
                          try simp only [List.getElem_toArray, List.getElem_cons_zero, List.getElem_cons_succ, Act.put, List.setIfInBounds_toArray, List.set_cons_zero, List.set_cons_succ]
                          refine wpAnyN_next (i := 9) rfl (by kernel_rfl) (fun Kc hK => ?_)
                          have b9c := BL_26.out.cell 0
                          have b9f := BL_26.out.frozen
                          have b9l := BL_26.out.lt
                          go_simp
                          have P_28 := Lib.hid (P_26.out.keepAt (gb_set x26 g8 0 (.slice A6 (n + 1) c6)) (show w.heap.size + 2 ≤ g8 by omega) (by omega))
                          have BL_28 := Lib.hid (BL_26.out.set_ 0 (.slice A6 (n + 1) c6))
                          have O6_28 := Lib.hid (own_kept' (i := 0) O6_26.out BL_26.out (by decide) (.slice A6 (n + 1) c6))
                          refine hK.out _ _ (fun h => absurd h (by decide)) ?_
                          clear hK Kc b9c b9f b9l
                          try simp only [List.getElem_toArray, List.getElem_cons_zero, List.getElem_cons_succ, Act.put, List.setIfInBounds_toArray, List.set_cons_zero, List.set_cons_succ]
                          refine wpAnyN_done (by kernel_rfl) ?_ _
                          go_wp2_with fail
                          go_meet
                          exact ⟨g8, A6, c6, rfl, P_28, BL_28, O6_28, Lib.hid g8_low⟩
                      · intro Kc hK
                        go_simp
                        have P_29 := Lib.hid (P_21.out.alloc (.cells #[.slice none 0 0] 26))
                        have BR_29 := Lib.hid (BR_21.out.alloc (.cells #[.slice none 0 0] 26))
                        have OC_29 := Lib.hid (OC_21.out.alloc (.cells #[.slice none 0 0] 26))
                        have B5_29 := Lib.hid (B5_21.out.alloc (.cells #[.slice none 0 0] 26))
                        have BL_29 := Lib.hid (Blk.new x21 26 #[.slice none 0 0])
                        have ng8_gr : gr < x21.heap.size := BR_21.out.lt
                        have ng8_ga : ga < x21.heap.size := (P_21.out.q.lt ga rfl).2
                        have ng8_o3 : o3 < x21.heap.size := (OC_21.out.lt o3 rfl).2
                        have ng8_g5 : g5 < x21.heap.size := B5_21.out.lt
                        have g8_low : w.heap.size + 1 < x21.heap.size := P_21.out.x.lt
                        refine hK.out _ _ (fun _ => ⟨P_29.out.x.cell 0, BR_29.out.three⟩) ?_
                        clear hK Kc
                        try simp only [List.getElem_toArray, List.getElem_cons_zero, List.getElem_cons_succ, Act.put, List.setIfInBounds_toArray, List.set_cons_zero, List.set_cons_succ]
                        generalize x21.heap.size = g8 at *
                        generalize x21.alloc (.cells #[.slice none 0 0] 26) = x29 at *
                        clear P_21 BR_21 OC_21 B5_21
                        refine wpAnyN_next (i := 6) rfl (by kernel_rfl) (fun Kc hK => ?_)
                        refine step_pushL (by rfl) _ _ _ (by rfl) w.heap.size 48 3 32 elem_rule Fac.cells (some ⟨o3, 0, none⟩) n c3 rs (by rfl) OC_29.out g5 ⟨⟨#[]⟩, l, r⟩ #[.string .empty, .int .i64 l, .int .i64 r] 48 (0, 0) (by rfl) B5_29.out rfl rfl (one_fac _) (by omega) (by omega) (by unfold maxLen; omega) P_29.out.e.size ?_
                        intro A6 c6 x30 own6 hg6 at6
                        have P_30 := Lib.hid (P_29.out.keepAt hg6 (show w.heap.size + 2 ≤ o3 by omega) (by omega))
                        have BR_30 := Lib.hid (BR_29.out.grown hg6 (by intro e; have e2 : some gr = some o3 := e; injection e2 with e2; omega))
                        have BL_30 := Lib.hid (BL_29.out.grown hg6 (by intro e; have e2 : some g8 = some o3 := e; injection e2 with e2; omega))
                        have O6_30 := Lib.hid own6
                        refine hK.out _ _ (fun h => absurd h (by decide)) ?_
                        clear hK Kc own6 hg6 at6
                        try simp only [List.getElem_toArray, List.getElem_cons_zero, List.getElem_cons_succ, Act.put, List.setIfInBounds_toArray, List.set_cons_zero, List.set_cons_succ]
                        clear P_29 BR_29 OC_29 B5_29 BL_29
                        refine wpAnyN_next (i := 7) rfl (by kernel_rfl) (fun Kc hK => ?_)
                        go_simp
                        refine hK.out _ _ (fun h => absurd h (by decide)) ?_
                        clear hK Kc
                        try simp only [List.getElem_toArray, List.getElem_cons_zero, List.getElem_cons_succ, Act.put, List.setIfInBounds_toArray, List.set_cons_zero, List.set_cons_succ]
                        refine wpAnyN_next (i := 9) rfl (by kernel_rfl) (fun Kc hK => ?_)
                        have b9c := BL_30.out.cell 0
                        have b9f := BL_30.out.frozen
                        have b9l := BL_30.out.lt
                        go_simp
                        have P_32 := Lib.hid (P_30.out.keepAt (gb_set x30 g8 0 (.slice A6 (n + 1) c6)) (show w.heap.size + 2 ≤ g8 by omega) (by omega))
                        have BL_32 := Lib.hid (BL_30.out.set_ 0 (.slice A6 (n + 1) c6))
                        have O6_32 := Lib.hid (own_kept' (i := 0) O6_30.out BL_30.out (by decide) (.slice A6 (n + 1) c6))
                        refine hK.out _ _ (fun h => absurd h (by decide)) ?_
                        clear hK Kc b9c b9f b9l
                        try simp only [List.getElem_toArray, List.getElem_cons_zero, List.getElem_cons_succ, Act.put, List.setIfInBounds_toArray, List.set_cons_zero, List.set_cons_succ]
                        refine wpAnyN_done (by kernel_rfl) ?_ _
                        go_wp2_with fail
                        go_meet
                        exact ⟨g8, A6, c6, rfl, P_32, BL_32, O6_32, Lib.hid g8_low⟩
                    · intro Kc hK
                      go_simp
                      have P_33 := Lib.hid (P_20.out.alloc (.cells #[.slice none 0 0] 26))
                      have BR_33 := Lib.hid (BR_20.out.alloc (.cells #[.slice none 0 0] 26))
                      have OE_33 := Lib.hid (OE_20.out.alloc (.cells #[.slice none 0 0] 26))
                      have B5_33 := Lib.hid (B5_20.out.alloc (.cells #[.slice none 0 0] 26))
                      have BL_33 := Lib.hid (Blk.new x20 26 #[.slice none 0 0])
                      have ng8_gr : gr < x20.heap.size := BR_20.out.lt
                      have ng8_ga : ga < x20.heap.size := (P_20.out.q.lt ga rfl).2
                      have ng8_e0 : e0 < x20.heap.size := (OE_20.out.lt e0 rfl).2
                      have ng8_g5 : g5 < x20.heap.size := B5_20.out.lt
                      have g8_low : w.heap.size + 1 < x20.heap.size := P_20.out.x.lt
                      refine hK.out _ _ (fun _ => ⟨P_33.out.x.cell 0, BR_33.out.three⟩) ?_
                      clear hK Kc
                      try simp only [List.getElem_toArray, List.getElem_cons_zero, List.getElem_cons_succ, Act.put, List.setIfInBounds_toArray, List.set_cons_zero, List.set_cons_succ]
                      generalize x20.heap.size = g8 at *
                      generalize x20.alloc (.cells #[.slice none 0 0] 26) = x33 at *
                      clear P_20 BR_20 OE_20 B5_20
                      refine wpAnyN_next (i := 3) rfl (by kernel_rfl) (fun Kc hK => ?_)
                      refine step_copyL (by rfl) _ _ _ (by rfl) w.heap.size 48 3 32 elem_rule Fac.cells e0 (by rfl) OE_33.out ⟨ga, 0, none⟩ n c rs (by rfl) HLn.out hn0 (Hnews.out _ P_33.out) (fun x _ => fac_len x) (fun x _ => one_fac x) (by omega) (by omega) (by unfold maxLen; omega) P_33.out.e.size ?_
                      intro A3 c3 x34 own3 hg3 at3
                      obtain ⟨o3, cap3, hv3, _, _⟩ := own3.form hn0
                      obtain rfl : A3 = some ⟨o3, 0, none⟩ := by injection hv3
                      have h3_gr : gr < x33.heap.size := BR_33.out.lt
                      have h3_ga : ga < x33.heap.size := (P_33.out.q.lt ga rfl).2
                      have h3_g5 : g5 < x33.heap.size := B5_33.out.lt
                      have h3_g8 : g8 < x33.heap.size := BL_33.out.lt
                      have at3 : o3 = e0 ∨ o3 = x33.heap.size := at3.imp (fun h => Option.some.inj h) (fun h => Option.some.inj h)
                      have o3_low : w.heap.size + 1 < o3 := by have h := P_33.out.x.lt; rcases at3 with h3 | h3 <;> omega
                      have o3_gr : gr ≠ o3 := by rcases at3 with h3 | h3 <;> omega
                      have o3_ga : ga ≠ o3 := by rcases at3 with h3 | h3 <;> omega
                      have o3_g5 : g5 ≠ o3 := by rcases at3 with h3 | h3 <;> omega
                      have o3_g8 : g8 ≠ o3 := by rcases at3 with h3 | h3 <;> omega
                      have P_34 := Lib.hid (P_33.out.keepAt hg3 (show w.heap.size + 2 ≤ e0 by omega) (by omega))
                      have BR_34 := Lib.hid (BR_33.out.grown hg3 (by intro e; injection e with e; omega))
                      have B5_34 := Lib.hid (B5_33.out.grown hg3 (by intro e; injection e with e; omega))
                      have BL_34 := Lib.hid (BL_33.out.grown hg3 (by intro e; injection e with e; omega))
                      have OC_34 := Lib.hid own3
                      refine hK.out _ _ (fun _ => ⟨P_34.out.x.cell 0, BR_34.out.three⟩) ?_
                      clear hK Kc own3 hg3 at3 hv3 h3_gr h3_ga h3_g5 h3_g8
                      try simp only [List.getElem_toArray, List.getElem_cons_zero, List.getElem_cons_succ, Act.put, List.setIfInBounds_toArray, List.set_cons_zero, List.set_cons_succ]
                      clear P_33 BR_33 OE_33 B5_33 BL_33
                      refine wpAnyN_next (i := 6) rfl (by kernel_rfl) (fun Kc hK => ?_)
                      refine step_pushL (by rfl) _ _ _ (by rfl) w.heap.size 48 3 32 elem_rule Fac.cells (some ⟨o3, 0, none⟩) n c3 rs (by rfl) OC_34.out g5 ⟨⟨#[]⟩, l, r⟩ #[.string .empty, .int .i64 l, .int .i64 r] 48 (0, 0) (by rfl) B5_34.out rfl rfl (one_fac _) (by omega) (by omega) (by unfold maxLen; omega) P_34.out.e.size ?_
                      intro A6 c6 x35 own6 hg6 at6
                      have P_35 := Lib.hid (P_34.out.keepAt hg6 (show w.heap.size + 2 ≤ o3 by omega) (by omega))
                      have BR_35 := Lib.hid (BR_34.out.grown hg6 (by intro e; have e2 : some gr = some o3 := e; injection e2 with e2; omega))
                      have BL_35 := Lib.hid (BL_34.out.grown hg6 (by intro e; have e2 : some g8 = some o3 := e; injection e2 with e2; omega))
                      have O6_35 := Lib.hid own6
                      refine hK.out _ _ (fun h => absurd h (by decide)) ?_
                      clear hK Kc own6 hg6 at6
                      try simp only [List.getElem_toArray, List.getElem_cons_zero, List.getElem_cons_succ, Act.put, List.setIfInBounds_toArray, List.set_cons_zero, List.set_cons_succ]
                      clear P_34 BR_34 OC_34 B5_34 BL_34
                      refine wpAnyN_next (i := 7) rfl (by kernel_rfl) (fun Kc hK => ?_)
                      go_simp
                      refine hK.out _ _ (fun h => absurd h (by decide)) ?_
                      clear hK Kc
                      try simp only [List.getElem_toArray, List.getElem_cons_zero, List.getElem_cons_succ, Act.put, List.setIfInBounds_toArray, List.set_cons_zero, List.set_cons_succ]
                      refine wpAnyN_next (i := 9) rfl (by kernel_rfl) (fun Kc hK => ?_)
                      have b9c := BL_35.out.cell 0
                      have b9f := BL_35.out.frozen
                      have b9l := BL_35.out.lt
                      go_simp
                      have P_37 := Lib.hid (P_35.out.keepAt (gb_set x35 g8 0 (.slice A6 (n + 1) c6)) (show w.heap.size + 2 ≤ g8 by omega) (by omega))
                      have BL_37 := Lib.hid (BL_35.out.set_ 0 (.slice A6 (n + 1) c6))
                      have O6_37 := Lib.hid (own_kept' (i := 0) O6_35.out BL_35.out (by decide) (.slice A6 (n + 1) c6))
                      refine hK.out _ _ (fun h => absurd h (by decide)) ?_
                      clear hK Kc b9c b9f b9l
                      try simp only [List.getElem_toArray, List.getElem_cons_zero, List.getElem_cons_succ, Act.put, List.setIfInBounds_toArray, List.set_cons_zero, List.set_cons_succ]
                      refine wpAnyN_done (by kernel_rfl) ?_ _
                      go_wp2_with fail
                      go_meet
                      exact ⟨g8, A6, c6, rfl, P_37, BL_37, O6_37, Lib.hid g8_low⟩
                  · intro Kc hK
                    go_simp
                    have P_38 := Lib.hid (P_1.out.alloc (.cells #[.slice none 0 0] 26))
                    have BR_38 := Lib.hid (BR_1.out.alloc (.cells #[.slice none 0 0] 26))
                    have OE_38 := Lib.hid (OE_1.out.alloc (.cells #[.slice none 0 0] 26))
                    have BL_38 := Lib.hid (Blk.new x1 26 #[.slice none 0 0])
                    have ng8_gr : gr < x1.heap.size := BR_1.out.lt
                    have ng8_ga : ga < x1.heap.size := (P_1.out.q.lt ga rfl).2
                    have ng8_e0 : e0 < x1.heap.size := (OE_1.out.lt e0 rfl).2
                    have g8_low : w.heap.size + 1 < x1.heap.size := P_1.out.x.lt
                    refine hK.out _ _ (fun _ => ⟨P_38.out.x.cell 0, BR_38.out.three⟩) ?_
                    clear hK Kc
                    try simp only [List.getElem_toArray, List.getElem_cons_zero, List.getElem_cons_succ, Act.put, List.setIfInBounds_toArray, List.set_cons_zero, List.set_cons_succ]
                    generalize x1.heap.size = g8 at *
                    generalize x1.alloc (.cells #[.slice none 0 0] 26) = x38 at *
                    clear P_1 BR_1 OE_1
                    refine wpAnyN_2 (i := 3) (j := 5) rfl rfl (by kernel_rfl) ?_ ?_
                    · intro Kc hK
                      refine step_copyL (by rfl) _ _ _ (by rfl) w.heap.size 48 3 32 elem_rule Fac.cells e0 (by rfl) OE_38.out ⟨ga, 0, none⟩ n c rs (by rfl) HLn.out hn0 (Hnews.out _ P_38.out) (fun x _ => fac_len x) (fun x _ => one_fac x) (by omega) (by omega) (by unfold maxLen; omega) P_38.out.e.size ?_
                      intro A3 c3 x39 own3 hg3 at3
                      obtain ⟨o3, cap3, hv3, _, _⟩ := own3.form hn0
                      obtain rfl : A3 = some ⟨o3, 0, none⟩ := by injection hv3
                      have h3_gr : gr < x38.heap.size := BR_38.out.lt
                      have h3_ga : ga < x38.heap.size := (P_38.out.q.lt ga rfl).2
                      have h3_g8 : g8 < x38.heap.size := BL_38.out.lt
                      have at3 : o3 = e0 ∨ o3 = x38.heap.size := at3.imp (fun h => Option.some.inj h) (fun h => Option.some.inj h)
                      have o3_low : w.heap.size + 1 < o3 := by have h := P_38.out.x.lt; rcases at3 with h3 | h3 <;> omega
                      have o3_gr : gr ≠ o3 := by rcases at3 with h3 | h3 <;> omega
                      have o3_ga : ga ≠ o3 := by rcases at3 with h3 | h3 <;> omega
                      have o3_g8 : g8 ≠ o3 := by rcases at3 with h3 | h3 <;> omega
                      have P_39 := Lib.hid (P_38.out.keepAt hg3 (show w.heap.size + 2 ≤ e0 by omega) (by omega))
                      have BR_39 := Lib.hid (BR_38.out.grown hg3 (by intro e; injection e with e; omega))
                      have BL_39 := Lib.hid (BL_38.out.grown hg3 (by intro e; injection e with e; omega))
                      have OC_39 := Lib.hid own3
                      refine hK.out _ _ (fun _ => ⟨P_39.out.x.cell 0, BR_39.out.three⟩) ?_
                      clear hK Kc own3 hg3 at3 hv3 h3_gr h3_ga h3_g8
                      try simp only [List.getElem_toArray, List.getElem_cons_zero, List.getElem_cons_succ, Act.put, List.setIfInBounds_toArray, List.set_cons_zero, List.set_cons_succ]
                      clear P_38 BR_38 OE_38 BL_38
                      refine wpAnyN_next (i := 5) rfl (by kernel_rfl) (fun Kc hK => ?_)
                      go_simp
                      have P_40 := Lib.hid (P_39.out.alloc (.cells #[.string .empty, .int .i64 l, .int .i64 r] 48))
                      have BR_40 := Lib.hid (BR_39.out.alloc (.cells #[.string .empty, .int .i64 l, .int .i64 r] 48))
                      have OC_40 := Lib.hid (OC_39.out.alloc (.cells #[.string .empty, .int .i64 l, .int .i64 r] 48))
                      have BL_40 := Lib.hid (BL_39.out.alloc (.cells #[.string .empty, .int .i64 l, .int .i64 r] 48))
                      have B5_40 := Lib.hid (Blk.new x39 48 #[.string .empty, .int .i64 l, .int .i64 r])
                      have ng5_gr : gr < x39.heap.size := BR_39.out.lt
                      have ng5_ga : ga < x39.heap.size := (P_39.out.q.lt ga rfl).2
                      have ng5_o3 : o3 < x39.heap.size := (OC_39.out.lt o3 rfl).2
                      have ng5_g8 : g8 < x39.heap.size := BL_39.out.lt
                      have g5_low : w.heap.size + 1 < x39.heap.size := P_39.out.x.lt
                      refine hK.out _ _ (fun _ => ⟨P_40.out.x.cell 0, BR_40.out.three⟩) ?_
                      clear hK Kc
                      try simp only [List.getElem_toArray, List.getElem_cons_zero, List.getElem_cons_succ, Act.put, List.setIfInBounds_toArray, List.set_cons_zero, List.set_cons_succ]
                      generalize x39.heap.size = g5 at *
                      generalize x39.alloc (.cells #[.string .empty, .int .i64 l, .int .i64 r] 48) = x40 at *
                      clear P_39 BR_39 OC_39 BL_39
                      refine wpAnyN_next (i := 6) rfl (by kernel_rfl) (fun Kc hK => ?_)
                      refine step_pushL (by rfl) _ _ _ (by rfl) w.heap.size 48 3 32 elem_rule Fac.cells (some ⟨o3, 0, none⟩) n c3 rs (by rfl) OC_40.out g5 ⟨⟨#[]⟩, l, r⟩ #[.string .empty, .int .i64 l, .int .i64 r] 48 (0, 0) (by rfl) B5_40.out rfl rfl (one_fac _) (by omega) (by omega) (by unfold maxLen; omega) P_40.out.e.size ?_
                      intro A6 c6 x41 own6 hg6 at6
                      have P_41 := Lib.hid (P_40.out.keepAt hg6 (show w.heap.size + 2 ≤ o3 by omega) (by omega))
                      have BR_41 := Lib.hid (BR_40.out.grown hg6 (by intro e; have e2 : some gr = some o3 := e; injection e2 with e2; omega))
                      have BL_41 := Lib.hid (BL_40.out.grown hg6 (by intro e; have e2 : some g8 = some o3 := e; injection e2 with e2; omega))
                      have O6_41 := Lib.hid own6
                      refine hK.out _ _ (fun h => absurd h (by decide)) ?_
                      clear hK Kc own6 hg6 at6
                      try simp only [List.getElem_toArray, List.getElem_cons_zero, List.getElem_cons_succ, Act.put, List.setIfInBounds_toArray, List.set_cons_zero, List.set_cons_succ]
                      clear P_40 BR_40 OC_40 B5_40 BL_40
                      refine wpAnyN_next (i := 7) rfl (by kernel_rfl) (fun Kc hK => ?_)
                      go_simp
                      refine hK.out _ _ (fun h => absurd h (by decide)) ?_
                      clear hK Kc
                      try simp only [List.getElem_toArray, List.getElem_cons_zero, List.getElem_cons_succ, Act.put, List.setIfInBounds_toArray, List.set_cons_zero, List.set_cons_succ]
                      refine wpAnyN_next (i := 9) rfl (by kernel_rfl) (fun Kc hK => ?_)
                      have b9c := BL_41.out.cell 0
                      have b9f := BL_41.out.frozen
                      have b9l := BL_41.out.lt
                      go_simp
                      have P_43 := Lib.hid (P_41.out.keepAt (gb_set x41 g8 0 (.slice A6 (n + 1) c6)) (show w.heap.size + 2 ≤ g8 by omega) (by omega))
                      have BL_43 := Lib.hid (BL_41.out.set_ 0 (.slice A6 (n + 1) c6))
                      have O6_43 := Lib.hid (own_kept' (i := 0) O6_41.out BL_41.out (by decide) (.slice A6 (n + 1) c6))
                      refine hK.out _ _ (fun h => absurd h (by decide)) ?_
                      clear hK Kc b9c b9f b9l
                      try simp only [List.getElem_toArray, List.getElem_cons_zero, List.getElem_cons_succ, Act.put, List.setIfInBounds_toArray, List.set_cons_zero, List.set_cons_succ]
                      refine wpAnyN_done (by kernel_rfl) ?_ _
                      go_wp2_with fail
                      go_meet
                      exact ⟨g8, A6, c6, rfl, P_43, BL_43, O6_43, Lib.hid g8_low⟩
                    · intro Kc hK
                      go_simp
                      have P_44 := Lib.hid (P_38.out.alloc (.cells #[.string .empty, .int .i64 l, .int .i64 r] 48))
                      have BR_44 := Lib.hid (BR_38.out.alloc (.cells #[.string .empty, .int .i64 l, .int .i64 r] 48))
                      have OE_44 := Lib.hid (OE_38.out.alloc (.cells #[.string .empty, .int .i64 l, .int .i64 r] 48))
                      have BL_44 := Lib.hid (BL_38.out.alloc (.cells #[.string .empty, .int .i64 l, .int .i64 r] 48))
                      have B5_44 := Lib.hid (Blk.new x38 48 #[.string .empty, .int .i64 l, .int .i64 r])
                      have ng5_gr : gr < x38.heap.size := BR_38.out.lt
                      have ng5_ga : ga < x38.heap.size := (P_38.out.q.lt ga rfl).2
                      have ng5_e0 : e0 < x38.heap.size := (OE_38.out.lt e0 rfl).2
                      have ng5_g8 : g8 < x38.heap.size := BL_38.out.lt
                      have g5_low : w.heap.size + 1 < x38.heap.size := P_38.out.x.lt
                      refine hK.out _ _ (fun _ => ⟨P_44.out.x.cell 0, BR_44.out.three⟩) ?_
                      clear hK Kc
                      try simp only [List.getElem_toArray, List.getElem_cons_zero, List.getElem_cons_succ, Act.put, List.setIfInBounds_toArray, List.set_cons_zero, List.set_cons_succ]
                      generalize x38.heap.size = g5 at *
                      generalize x38.alloc (.cells #[.string .empty, .int .i64 l, .int .i64 r] 48) = x44 at *
                      clear P_38 BR_38 OE_38 BL_38
                      refine wpAnyN_next (i := 3) rfl (by kernel_rfl) (fun Kc hK => ?_)
                      refine step_copyL (by rfl) _ _ _ (by rfl) w.heap.size 48 3 32 elem_rule Fac.cells e0 (by rfl) OE_44.out ⟨ga, 0, none⟩ n c rs (by rfl) HLn.out hn0 (Hnews.out _ P_44.out) (fun x _ => fac_len x) (fun x _ => one_fac x) (by omega) (by omega) (by unfold maxLen; omega) P_44.out.e.size ?_
                      intro A3 c3 x45 own3 hg3 at3
                      obtain ⟨o3, cap3, hv3, _, _⟩ := own3.form hn0
                      obtain rfl : A3 = some ⟨o3, 0, none⟩ := by injection hv3
                      have h3_gr : gr < x44.heap.size := BR_44.out.lt
                      have h3_ga : ga < x44.heap.size := (P_44.out.q.lt ga rfl).2
                      have h3_g5 : g5 < x44.heap.size := B5_44.out.lt
                      have h3_g8 : g8 < x44.heap.size := BL_44.out.lt
                      have at3 : o3 = e0 ∨ o3 = x44.heap.size := at3.imp (fun h => Option.some.inj h) (fun h => Option.some.inj h)
                      have o3_low : w.heap.size + 1 < o3 := by have h := P_44.out.x.lt; rcases at3 with h3 | h3 <;> omega
                      have o3_gr : gr ≠ o3 := by rcases at3 with h3 | h3 <;> omega
                      have o3_ga : ga ≠ o3 := by rcases at3 with h3 | h3 <;> omega
                      have o3_g5 : g5 ≠ o3 := by rcases at3 with h3 | h3 <;> omega
                      have o3_g8 : g8 ≠ o3 := by rcases at3 with h3 | h3 <;> omega
                      have P_45 := Lib.hid (P_44.out.keepAt hg3 (show w.heap.size + 2 ≤ e0 by omega) (by omega))
                      have BR_45 := Lib.hid (BR_44.out.grown hg3 (by intro e; injection e with e; omega))
                      have B5_45 := Lib.hid (B5_44.out.grown hg3 (by intro e; injection e with e; omega))
                      have BL_45 := Lib.hid (BL_44.out.grown hg3 (by intro e; injection e with e; omega))
                      have OC_45 := Lib.hid own3
                      refine hK.out _ _ (fun _ => ⟨P_45.out.x.cell 0, BR_45.out.three⟩) ?_
                      clear hK Kc own3 hg3 at3 hv3 h3_gr h3_ga h3_g5 h3_g8
                      try simp only [List.getElem_toArray, List.getElem_cons_zero, List.getElem_cons_succ, Act.put, List.setIfInBounds_toArray, List.set_cons_zero, List.set_cons_succ]
                      clear P_44 BR_44 OE_44 B5_44 BL_44
                      refine wpAnyN_next (i := 6) rfl (by kernel_rfl) (fun Kc hK => ?_)
                      refine step_pushL (by rfl) _ _ _ (by rfl) w.heap.size 48 3 32 elem_rule Fac.cells (some ⟨o3, 0, none⟩) n c3 rs (by rfl) OC_45.out g5 ⟨⟨#[]⟩, l, r⟩ #[.string .empty, .int .i64 l, .int .i64 r] 48 (0, 0) (by rfl) B5_45.out rfl rfl (one_fac _) (by omega) (by omega) (by unfold maxLen; omega) P_45.out.e.size ?_
                      intro A6 c6 x46 own6 hg6 at6
                      have P_46 := Lib.hid (P_45.out.keepAt hg6 (show w.heap.size + 2 ≤ o3 by omega) (by omega))
                      have BR_46 := Lib.hid (BR_45.out.grown hg6 (by intro e; have e2 : some gr = some o3 := e; injection e2 with e2; omega))
                      have BL_46 := Lib.hid (BL_45.out.grown hg6 (by intro e; have e2 : some g8 = some o3 := e; injection e2 with e2; omega))
                      have O6_46 := Lib.hid own6
                      refine hK.out _ _ (fun h => absurd h (by decide)) ?_
                      clear hK Kc own6 hg6 at6
                      try simp only [List.getElem_toArray, List.getElem_cons_zero, List.getElem_cons_succ, Act.put, List.setIfInBounds_toArray, List.set_cons_zero, List.set_cons_succ]
                      clear P_45 BR_45 OC_45 B5_45 BL_45
                      refine wpAnyN_next (i := 7) rfl (by kernel_rfl) (fun Kc hK => ?_)
                      go_simp
                      refine hK.out _ _ (fun h => absurd h (by decide)) ?_
                      clear hK Kc
                      try simp only [List.getElem_toArray, List.getElem_cons_zero, List.getElem_cons_succ, Act.put, List.setIfInBounds_toArray, List.set_cons_zero, List.set_cons_succ]
                      refine wpAnyN_next (i := 9) rfl (by kernel_rfl) (fun Kc hK => ?_)
                      have b9c := BL_46.out.cell 0
                      have b9f := BL_46.out.frozen
                      have b9l := BL_46.out.lt
                      go_simp
                      have P_48 := Lib.hid (P_46.out.keepAt (gb_set x46 g8 0 (.slice A6 (n + 1) c6)) (show w.heap.size + 2 ≤ g8 by omega) (by omega))
                      have BL_48 := Lib.hid (BL_46.out.set_ 0 (.slice A6 (n + 1) c6))
                      have O6_48 := Lib.hid (own_kept' (i := 0) O6_46.out BL_46.out (by decide) (.slice A6 (n + 1) c6))
                      refine hK.out _ _ (fun h => absurd h (by decide)) ?_
                      clear hK Kc b9c b9f b9l
                      try simp only [List.getElem_toArray, List.getElem_cons_zero, List.getElem_cons_succ, Act.put, List.setIfInBounds_toArray, List.set_cons_zero, List.set_cons_succ]
                      refine wpAnyN_done (by kernel_rfl) ?_ _
                      go_wp2_with fail
                      go_meet
                      exact ⟨g8, A6, c6, rfl, P_48, BL_48, O6_48, Lib.hid g8_low⟩
                · intro Kc hK
                  go_simp
                  have P_49 := Lib.hid (P_0.out.alloc (.cells #[.string .empty, .int .i64 l, .int .i64 r] 48))
                  have BR_49 := Lib.hid (BR_0.out.alloc (.cells #[.string .empty, .int .i64 l, .int .i64 r] 48))
                  have B5_49 := Lib.hid (Blk.new wd 48 #[.string .empty, .int .i64 l, .int .i64 r])
                  have ng5_gr : gr < wd.heap.size := BR_0.out.lt
                  have ng5_ga : ga < wd.heap.size := (P_0.out.q.lt ga rfl).2
                  have g5_low : w.heap.size + 1 < wd.heap.size := P_0.out.x.lt
                  refine hK.out _ _ (fun _ => ⟨P_49.out.x.cell 0, BR_49.out.three⟩) ?_
                  clear hK Kc
                  try simp only [List.getElem_toArray, List.getElem_cons_zero, List.getElem_cons_succ, Act.put, List.setIfInBounds_toArray, List.set_cons_zero, List.set_cons_succ]
                  generalize wd.heap.size = g5 at *
                  generalize wd.alloc (.cells #[.string .empty, .int .i64 l, .int .i64 r] 48) = x49 at *
                  clear P_0 BR_0
                  refine wpAnyN_2 (i := 0) (j := 8) rfl rfl (by kernel_rfl) ?_ ?_
                  · intro Kc hK
                    go_simp
                    have P_50 := Lib.hid (P_49.out.alloc (.cells #[] 48))
                    have BR_50 := Lib.hid (BR_49.out.alloc (.cells #[] 48))
                    have B5_50 := Lib.hid (B5_49.out.alloc (.cells #[] 48))
                    have OE_50 := Lib.hid (World.ownsRow_made (base := w.heap.size) (e := 48) (size := 3) x49 #[] 0 (by have := P_49.out.x.lt; omega) (by unfold maxLen; omega) rfl)
                    have ne0_gr : gr < x49.heap.size := BR_49.out.lt
                    have ne0_ga : ga < x49.heap.size := (P_49.out.q.lt ga rfl).2
                    have ne0_g5 : g5 < x49.heap.size := B5_49.out.lt
                    have e0_low : w.heap.size + 1 < x49.heap.size := P_49.out.x.lt
                    refine hK.out _ _ (fun _ => ⟨P_50.out.x.cell 0, BR_50.out.three⟩) ?_
                    clear hK Kc
                    try simp only [List.getElem_toArray, List.getElem_cons_zero, List.getElem_cons_succ, Act.put, List.setIfInBounds_toArray, List.set_cons_zero, List.set_cons_succ]
                    generalize x49.heap.size = e0 at *
                    generalize x49.alloc (.cells #[] 48) = x50 at *
                    clear P_49 BR_49 B5_49
                    refine wpAnyN_2 (i := 3) (j := 8) rfl rfl (by kernel_rfl) ?_ ?_
                    · intro Kc hK
                      refine step_copyL (by rfl) _ _ _ (by rfl) w.heap.size 48 3 32 elem_rule Fac.cells e0 (by rfl) OE_50.out ⟨ga, 0, none⟩ n c rs (by rfl) HLn.out hn0 (Hnews.out _ P_50.out) (fun x _ => fac_len x) (fun x _ => one_fac x) (by omega) (by omega) (by unfold maxLen; omega) P_50.out.e.size ?_
                      intro A3 c3 x51 own3 hg3 at3
                      obtain ⟨o3, cap3, hv3, _, _⟩ := own3.form hn0
                      obtain rfl : A3 = some ⟨o3, 0, none⟩ := by injection hv3
                      have h3_gr : gr < x50.heap.size := BR_50.out.lt
                      have h3_ga : ga < x50.heap.size := (P_50.out.q.lt ga rfl).2
                      have h3_g5 : g5 < x50.heap.size := B5_50.out.lt
                      have at3 : o3 = e0 ∨ o3 = x50.heap.size := at3.imp (fun h => Option.some.inj h) (fun h => Option.some.inj h)
                      have o3_low : w.heap.size + 1 < o3 := by have h := P_50.out.x.lt; rcases at3 with h3 | h3 <;> omega
                      have o3_gr : gr ≠ o3 := by rcases at3 with h3 | h3 <;> omega
                      have o3_ga : ga ≠ o3 := by rcases at3 with h3 | h3 <;> omega
                      have o3_g5 : g5 ≠ o3 := by rcases at3 with h3 | h3 <;> omega
                      have P_51 := Lib.hid (P_50.out.keepAt hg3 (show w.heap.size + 2 ≤ e0 by omega) (by omega))
                      have BR_51 := Lib.hid (BR_50.out.grown hg3 (by intro e; injection e with e; omega))
                      have B5_51 := Lib.hid (B5_50.out.grown hg3 (by intro e; injection e with e; omega))
                      have OC_51 := Lib.hid own3
                      refine hK.out _ _ (fun _ => ⟨P_51.out.x.cell 0, BR_51.out.three⟩) ?_
                      clear hK Kc own3 hg3 at3 hv3 h3_gr h3_ga h3_g5
                      try simp only [List.getElem_toArray, List.getElem_cons_zero, List.getElem_cons_succ, Act.put, List.setIfInBounds_toArray, List.set_cons_zero, List.set_cons_succ]
                      clear P_50 BR_50 OE_50 B5_50
                      refine wpAnyN_2 (i := 6) (j := 8) rfl rfl (by kernel_rfl) ?_ ?_
                      · intro Kc hK
                        refine step_pushL (by rfl) _ _ _ (by rfl) w.heap.size 48 3 32 elem_rule Fac.cells (some ⟨o3, 0, none⟩) n c3 rs (by rfl) OC_51.out g5 ⟨⟨#[]⟩, l, r⟩ #[.string .empty, .int .i64 l, .int .i64 r] 48 (0, 0) (by rfl) B5_51.out rfl rfl (one_fac _) (by omega) (by omega) (by unfold maxLen; omega) P_51.out.e.size ?_
                        intro A6 c6 x52 own6 hg6 at6
                        have P_52 := Lib.hid (P_51.out.keepAt hg6 (show w.heap.size + 2 ≤ o3 by omega) (by omega))
                        have BR_52 := Lib.hid (BR_51.out.grown hg6 (by intro e; have e2 : some gr = some o3 := e; injection e2 with e2; omega))
                        have O6_52 := Lib.hid own6
                        refine hK.out _ _ (fun h => absurd h (by decide)) ?_
                        clear hK Kc own6 hg6 at6
                        try simp only [List.getElem_toArray, List.getElem_cons_zero, List.getElem_cons_succ, Act.put, List.setIfInBounds_toArray, List.set_cons_zero, List.set_cons_succ]
                        clear P_51 BR_51 OC_51 B5_51
                        refine wpAnyN_2 (i := 7) (j := 8) rfl rfl (by kernel_rfl) ?_ ?_
                        · intro Kc hK
                          go_simp
                          refine hK.out _ _ (fun h => absurd h (by decide)) ?_
                          clear hK Kc
                          try simp only [List.getElem_toArray, List.getElem_cons_zero, List.getElem_cons_succ, Act.put, List.setIfInBounds_toArray, List.set_cons_zero, List.set_cons_succ]
                          refine wpAnyN_next (i := 8) rfl (by kernel_rfl) (fun Kc hK => ?_)
                          go_simp
                          have P_54 := Lib.hid (P_52.out.alloc (.cells #[.slice none 0 0] 26))
                          have BR_54 := Lib.hid (BR_52.out.alloc (.cells #[.slice none 0 0] 26))
                          have O6_54 := Lib.hid (O6_52.out.alloc (.cells #[.slice none 0 0] 26))
                          have BL_54 := Lib.hid (Blk.new x52 26 #[.slice none 0 0])
                          have ng8_gr : gr < x52.heap.size := BR_52.out.lt
                          have ng8_ga : ga < x52.heap.size := (P_52.out.q.lt ga rfl).2
                          have g8_low : w.heap.size + 1 < x52.heap.size := P_52.out.x.lt
                          refine hK.out _ _ (fun _ => ⟨P_54.out.x.cell 0, BR_54.out.three⟩) ?_
                          clear hK Kc
                          try simp only [List.getElem_toArray, List.getElem_cons_zero, List.getElem_cons_succ, Act.put, List.setIfInBounds_toArray, List.set_cons_zero, List.set_cons_succ]
                          generalize x52.heap.size = g8 at *
                          generalize x52.alloc (.cells #[.slice none 0 0] 26) = x54 at *
                          clear P_52 BR_52 O6_52
                          refine wpAnyN_next (i := 9) rfl (by kernel_rfl) (fun Kc hK => ?_)
                          have b9c := BL_54.out.cell 0
                          have b9f := BL_54.out.frozen
                          have b9l := BL_54.out.lt
                          go_simp
                          have P_55 := Lib.hid (P_54.out.keepAt (gb_set x54 g8 0 (.slice A6 (n + 1) c6)) (show w.heap.size + 2 ≤ g8 by omega) (by omega))
                          have BL_55 := Lib.hid (BL_54.out.set_ 0 (.slice A6 (n + 1) c6))
                          have O6_55 := Lib.hid (own_kept' (i := 0) O6_54.out BL_54.out (by decide) (.slice A6 (n + 1) c6))
                          refine hK.out _ _ (fun h => absurd h (by decide)) ?_
                          clear hK Kc b9c b9f b9l
                          try simp only [List.getElem_toArray, List.getElem_cons_zero, List.getElem_cons_succ, Act.put, List.setIfInBounds_toArray, List.set_cons_zero, List.set_cons_succ]
                          refine wpAnyN_done (by kernel_rfl) ?_ _
                          go_wp2_with fail
                          go_meet
                          exact ⟨g8, A6, c6, rfl, P_55, BL_55, O6_55, Lib.hid g8_low⟩
                        · intro Kc hK
                          go_simp
                          have P_56 := Lib.hid (P_52.out.alloc (.cells #[.slice none 0 0] 26))
                          have BR_56 := Lib.hid (BR_52.out.alloc (.cells #[.slice none 0 0] 26))
                          have O6_56 := Lib.hid (O6_52.out.alloc (.cells #[.slice none 0 0] 26))
                          have BL_56 := Lib.hid (Blk.new x52 26 #[.slice none 0 0])
                          have ng8_gr : gr < x52.heap.size := BR_52.out.lt
                          have ng8_ga : ga < x52.heap.size := (P_52.out.q.lt ga rfl).2
                          have g8_low : w.heap.size + 1 < x52.heap.size := P_52.out.x.lt
                          refine hK.out _ _ (fun _ => ⟨P_56.out.x.cell 0, BR_56.out.three⟩) ?_
                          clear hK Kc
                          try simp only [List.getElem_toArray, List.getElem_cons_zero, List.getElem_cons_succ, Act.put, List.setIfInBounds_toArray, List.set_cons_zero, List.set_cons_succ]
                          generalize x52.heap.size = g8 at *
                          generalize x52.alloc (.cells #[.slice none 0 0] 26) = x56 at *
                          clear P_52 BR_52 O6_52
                          refine wpAnyN_next (i := 7) rfl (by kernel_rfl) (fun Kc hK => ?_)
                          go_simp
                          refine hK.out _ _ (fun h => absurd h (by decide)) ?_
                          clear hK Kc
                          try simp only [List.getElem_toArray, List.getElem_cons_zero, List.getElem_cons_succ, Act.put, List.setIfInBounds_toArray, List.set_cons_zero, List.set_cons_succ]
                          refine wpAnyN_next (i := 9) rfl (by kernel_rfl) (fun Kc hK => ?_)
                          have b9c := BL_56.out.cell 0
                          have b9f := BL_56.out.frozen
                          have b9l := BL_56.out.lt
                          go_simp
                          have P_58 := Lib.hid (P_56.out.keepAt (gb_set x56 g8 0 (.slice A6 (n + 1) c6)) (show w.heap.size + 2 ≤ g8 by omega) (by omega))
                          have BL_58 := Lib.hid (BL_56.out.set_ 0 (.slice A6 (n + 1) c6))
                          have O6_58 := Lib.hid (own_kept' (i := 0) O6_56.out BL_56.out (by decide) (.slice A6 (n + 1) c6))
                          refine hK.out _ _ (fun h => absurd h (by decide)) ?_
                          clear hK Kc b9c b9f b9l
                          try simp only [List.getElem_toArray, List.getElem_cons_zero, List.getElem_cons_succ, Act.put, List.setIfInBounds_toArray, List.set_cons_zero, List.set_cons_succ]
                          refine wpAnyN_done (by kernel_rfl) ?_ _
                          go_wp2_with fail
                          go_meet
                          exact ⟨g8, A6, c6, rfl, P_58, BL_58, O6_58, Lib.hid g8_low⟩
                      · intro Kc hK
                        go_simp
                        have P_59 := Lib.hid (P_51.out.alloc (.cells #[.slice none 0 0] 26))
                        have BR_59 := Lib.hid (BR_51.out.alloc (.cells #[.slice none 0 0] 26))
                        have OC_59 := Lib.hid (OC_51.out.alloc (.cells #[.slice none 0 0] 26))
                        have B5_59 := Lib.hid (B5_51.out.alloc (.cells #[.slice none 0 0] 26))
                        have BL_59 := Lib.hid (Blk.new x51 26 #[.slice none 0 0])
                        have ng8_gr : gr < x51.heap.size := BR_51.out.lt
                        have ng8_ga : ga < x51.heap.size := (P_51.out.q.lt ga rfl).2
                        have ng8_o3 : o3 < x51.heap.size := (OC_51.out.lt o3 rfl).2
                        have ng8_g5 : g5 < x51.heap.size := B5_51.out.lt
                        have g8_low : w.heap.size + 1 < x51.heap.size := P_51.out.x.lt
                        refine hK.out _ _ (fun _ => ⟨P_59.out.x.cell 0, BR_59.out.three⟩) ?_
                        clear hK Kc
                        try simp only [List.getElem_toArray, List.getElem_cons_zero, List.getElem_cons_succ, Act.put, List.setIfInBounds_toArray, List.set_cons_zero, List.set_cons_succ]
                        generalize x51.heap.size = g8 at *
                        generalize x51.alloc (.cells #[.slice none 0 0] 26) = x59 at *
                        clear P_51 BR_51 OC_51 B5_51
                        refine wpAnyN_next (i := 6) rfl (by kernel_rfl) (fun Kc hK => ?_)
                        refine step_pushL (by rfl) _ _ _ (by rfl) w.heap.size 48 3 32 elem_rule Fac.cells (some ⟨o3, 0, none⟩) n c3 rs (by rfl) OC_59.out g5 ⟨⟨#[]⟩, l, r⟩ #[.string .empty, .int .i64 l, .int .i64 r] 48 (0, 0) (by rfl) B5_59.out rfl rfl (one_fac _) (by omega) (by omega) (by unfold maxLen; omega) P_59.out.e.size ?_
                        intro A6 c6 x60 own6 hg6 at6
                        have P_60 := Lib.hid (P_59.out.keepAt hg6 (show w.heap.size + 2 ≤ o3 by omega) (by omega))
                        have BR_60 := Lib.hid (BR_59.out.grown hg6 (by intro e; have e2 : some gr = some o3 := e; injection e2 with e2; omega))
                        have BL_60 := Lib.hid (BL_59.out.grown hg6 (by intro e; have e2 : some g8 = some o3 := e; injection e2 with e2; omega))
                        have O6_60 := Lib.hid own6
                        refine hK.out _ _ (fun h => absurd h (by decide)) ?_
                        clear hK Kc own6 hg6 at6
                        try simp only [List.getElem_toArray, List.getElem_cons_zero, List.getElem_cons_succ, Act.put, List.setIfInBounds_toArray, List.set_cons_zero, List.set_cons_succ]
                        clear P_59 BR_59 OC_59 B5_59 BL_59
                        refine wpAnyN_next (i := 7) rfl (by kernel_rfl) (fun Kc hK => ?_)
                        go_simp
                        refine hK.out _ _ (fun h => absurd h (by decide)) ?_
                        clear hK Kc
                        try simp only [List.getElem_toArray, List.getElem_cons_zero, List.getElem_cons_succ, Act.put, List.setIfInBounds_toArray, List.set_cons_zero, List.set_cons_succ]
                        refine wpAnyN_next (i := 9) rfl (by kernel_rfl) (fun Kc hK => ?_)
                        have b9c := BL_60.out.cell 0
                        have b9f := BL_60.out.frozen
                        have b9l := BL_60.out.lt
                        go_simp
                        have P_62 := Lib.hid (P_60.out.keepAt (gb_set x60 g8 0 (.slice A6 (n + 1) c6)) (show w.heap.size + 2 ≤ g8 by omega) (by omega))
                        have BL_62 := Lib.hid (BL_60.out.set_ 0 (.slice A6 (n + 1) c6))
                        have O6_62 := Lib.hid (own_kept' (i := 0) O6_60.out BL_60.out (by decide) (.slice A6 (n + 1) c6))
                        refine hK.out _ _ (fun h => absurd h (by decide)) ?_
                        clear hK Kc b9c b9f b9l
                        try simp only [List.getElem_toArray, List.getElem_cons_zero, List.getElem_cons_succ, Act.put, List.setIfInBounds_toArray, List.set_cons_zero, List.set_cons_succ]
                        refine wpAnyN_done (by kernel_rfl) ?_ _
                        go_wp2_with fail
                        go_meet
                        exact ⟨g8, A6, c6, rfl, P_62, BL_62, O6_62, Lib.hid g8_low⟩
                    · intro Kc hK
                      go_simp
                      have P_63 := Lib.hid (P_50.out.alloc (.cells #[.slice none 0 0] 26))
                      have BR_63 := Lib.hid (BR_50.out.alloc (.cells #[.slice none 0 0] 26))
                      have OE_63 := Lib.hid (OE_50.out.alloc (.cells #[.slice none 0 0] 26))
                      have B5_63 := Lib.hid (B5_50.out.alloc (.cells #[.slice none 0 0] 26))
                      have BL_63 := Lib.hid (Blk.new x50 26 #[.slice none 0 0])
                      have ng8_gr : gr < x50.heap.size := BR_50.out.lt
                      have ng8_ga : ga < x50.heap.size := (P_50.out.q.lt ga rfl).2
                      have ng8_e0 : e0 < x50.heap.size := (OE_50.out.lt e0 rfl).2
                      have ng8_g5 : g5 < x50.heap.size := B5_50.out.lt
                      have g8_low : w.heap.size + 1 < x50.heap.size := P_50.out.x.lt
                      refine hK.out _ _ (fun _ => ⟨P_63.out.x.cell 0, BR_63.out.three⟩) ?_
                      clear hK Kc
                      try simp only [List.getElem_toArray, List.getElem_cons_zero, List.getElem_cons_succ, Act.put, List.setIfInBounds_toArray, List.set_cons_zero, List.set_cons_succ]
                      generalize x50.heap.size = g8 at *
                      generalize x50.alloc (.cells #[.slice none 0 0] 26) = x63 at *
                      clear P_50 BR_50 OE_50 B5_50
                      refine wpAnyN_next (i := 3) rfl (by kernel_rfl) (fun Kc hK => ?_)
                      refine step_copyL (by rfl) _ _ _ (by rfl) w.heap.size 48 3 32 elem_rule Fac.cells e0 (by rfl) OE_63.out ⟨ga, 0, none⟩ n c rs (by rfl) HLn.out hn0 (Hnews.out _ P_63.out) (fun x _ => fac_len x) (fun x _ => one_fac x) (by omega) (by omega) (by unfold maxLen; omega) P_63.out.e.size ?_
                      intro A3 c3 x64 own3 hg3 at3
                      obtain ⟨o3, cap3, hv3, _, _⟩ := own3.form hn0
                      obtain rfl : A3 = some ⟨o3, 0, none⟩ := by injection hv3
                      have h3_gr : gr < x63.heap.size := BR_63.out.lt
                      have h3_ga : ga < x63.heap.size := (P_63.out.q.lt ga rfl).2
                      have h3_g5 : g5 < x63.heap.size := B5_63.out.lt
                      have h3_g8 : g8 < x63.heap.size := BL_63.out.lt
                      have at3 : o3 = e0 ∨ o3 = x63.heap.size := at3.imp (fun h => Option.some.inj h) (fun h => Option.some.inj h)
                      have o3_low : w.heap.size + 1 < o3 := by have h := P_63.out.x.lt; rcases at3 with h3 | h3 <;> omega
                      have o3_gr : gr ≠ o3 := by rcases at3 with h3 | h3 <;> omega
                      have o3_ga : ga ≠ o3 := by rcases at3 with h3 | h3 <;> omega
                      have o3_g5 : g5 ≠ o3 := by rcases at3 with h3 | h3 <;> omega
                      have o3_g8 : g8 ≠ o3 := by rcases at3 with h3 | h3 <;> omega
                      have P_64 := Lib.hid (P_63.out.keepAt hg3 (show w.heap.size + 2 ≤ e0 by omega) (by omega))
                      have BR_64 := Lib.hid (BR_63.out.grown hg3 (by intro e; injection e with e; omega))
                      have B5_64 := Lib.hid (B5_63.out.grown hg3 (by intro e; injection e with e; omega))
                      have BL_64 := Lib.hid (BL_63.out.grown hg3 (by intro e; injection e with e; omega))
                      have OC_64 := Lib.hid own3
                      refine hK.out _ _ (fun _ => ⟨P_64.out.x.cell 0, BR_64.out.three⟩) ?_
                      clear hK Kc own3 hg3 at3 hv3 h3_gr h3_ga h3_g5 h3_g8
                      try simp only [List.getElem_toArray, List.getElem_cons_zero, List.getElem_cons_succ, Act.put, List.setIfInBounds_toArray, List.set_cons_zero, List.set_cons_succ]
                      clear P_63 BR_63 OE_63 B5_63 BL_63
                      refine wpAnyN_next (i := 6) rfl (by kernel_rfl) (fun Kc hK => ?_)
                      refine step_pushL (by rfl) _ _ _ (by rfl) w.heap.size 48 3 32 elem_rule Fac.cells (some ⟨o3, 0, none⟩) n c3 rs (by rfl) OC_64.out g5 ⟨⟨#[]⟩, l, r⟩ #[.string .empty, .int .i64 l, .int .i64 r] 48 (0, 0) (by rfl) B5_64.out rfl rfl (one_fac _) (by omega) (by omega) (by unfold maxLen; omega) P_64.out.e.size ?_
                      intro A6 c6 x65 own6 hg6 at6
                      have P_65 := Lib.hid (P_64.out.keepAt hg6 (show w.heap.size + 2 ≤ o3 by omega) (by omega))
                      have BR_65 := Lib.hid (BR_64.out.grown hg6 (by intro e; have e2 : some gr = some o3 := e; injection e2 with e2; omega))
                      have BL_65 := Lib.hid (BL_64.out.grown hg6 (by intro e; have e2 : some g8 = some o3 := e; injection e2 with e2; omega))
                      have O6_65 := Lib.hid own6
                      refine hK.out _ _ (fun h => absurd h (by decide)) ?_
                      clear hK Kc own6 hg6 at6
                      try simp only [List.getElem_toArray, List.getElem_cons_zero, List.getElem_cons_succ, Act.put, List.setIfInBounds_toArray, List.set_cons_zero, List.set_cons_succ]
                      clear P_64 BR_64 OC_64 B5_64 BL_64
                      refine wpAnyN_next (i := 7) rfl (by kernel_rfl) (fun Kc hK => ?_)
                      go_simp
                      refine hK.out _ _ (fun h => absurd h (by decide)) ?_
                      clear hK Kc
                      try simp only [List.getElem_toArray, List.getElem_cons_zero, List.getElem_cons_succ, Act.put, List.setIfInBounds_toArray, List.set_cons_zero, List.set_cons_succ]
                      refine wpAnyN_next (i := 9) rfl (by kernel_rfl) (fun Kc hK => ?_)
                      have b9c := BL_65.out.cell 0
                      have b9f := BL_65.out.frozen
                      have b9l := BL_65.out.lt
                      go_simp
                      have P_67 := Lib.hid (P_65.out.keepAt (gb_set x65 g8 0 (.slice A6 (n + 1) c6)) (show w.heap.size + 2 ≤ g8 by omega) (by omega))
                      have BL_67 := Lib.hid (BL_65.out.set_ 0 (.slice A6 (n + 1) c6))
                      have O6_67 := Lib.hid (own_kept' (i := 0) O6_65.out BL_65.out (by decide) (.slice A6 (n + 1) c6))
                      refine hK.out _ _ (fun h => absurd h (by decide)) ?_
                      clear hK Kc b9c b9f b9l
                      try simp only [List.getElem_toArray, List.getElem_cons_zero, List.getElem_cons_succ, Act.put, List.setIfInBounds_toArray, List.set_cons_zero, List.set_cons_succ]
                      refine wpAnyN_done (by kernel_rfl) ?_ _
                      go_wp2_with fail
                      go_meet
                      exact ⟨g8, A6, c6, rfl, P_67, BL_67, O6_67, Lib.hid g8_low⟩
                  · intro Kc hK
                    go_simp
                    have P_68 := Lib.hid (P_49.out.alloc (.cells #[.slice none 0 0] 26))
                    have BR_68 := Lib.hid (BR_49.out.alloc (.cells #[.slice none 0 0] 26))
                    have B5_68 := Lib.hid (B5_49.out.alloc (.cells #[.slice none 0 0] 26))
                    have BL_68 := Lib.hid (Blk.new x49 26 #[.slice none 0 0])
                    have ng8_gr : gr < x49.heap.size := BR_49.out.lt
                    have ng8_ga : ga < x49.heap.size := (P_49.out.q.lt ga rfl).2
                    have ng8_g5 : g5 < x49.heap.size := B5_49.out.lt
                    have g8_low : w.heap.size + 1 < x49.heap.size := P_49.out.x.lt
                    refine hK.out _ _ (fun _ => ⟨P_68.out.x.cell 0, BR_68.out.three⟩) ?_
                    clear hK Kc
                    try simp only [List.getElem_toArray, List.getElem_cons_zero, List.getElem_cons_succ, Act.put, List.setIfInBounds_toArray, List.set_cons_zero, List.set_cons_succ]
                    generalize x49.heap.size = g8 at *
                    generalize x49.alloc (.cells #[.slice none 0 0] 26) = x68 at *
                    clear P_49 BR_49 B5_49
                    refine wpAnyN_next (i := 0) rfl (by kernel_rfl) (fun Kc hK => ?_)
                    go_simp
                    have P_69 := Lib.hid (P_68.out.alloc (.cells #[] 48))
                    have BR_69 := Lib.hid (BR_68.out.alloc (.cells #[] 48))
                    have B5_69 := Lib.hid (B5_68.out.alloc (.cells #[] 48))
                    have BL_69 := Lib.hid (BL_68.out.alloc (.cells #[] 48))
                    have OE_69 := Lib.hid (World.ownsRow_made (base := w.heap.size) (e := 48) (size := 3) x68 #[] 0 (by have := P_68.out.x.lt; omega) (by unfold maxLen; omega) rfl)
                    have ne0_gr : gr < x68.heap.size := BR_68.out.lt
                    have ne0_ga : ga < x68.heap.size := (P_68.out.q.lt ga rfl).2
                    have ne0_g5 : g5 < x68.heap.size := B5_68.out.lt
                    have ne0_g8 : g8 < x68.heap.size := BL_68.out.lt
                    have e0_low : w.heap.size + 1 < x68.heap.size := P_68.out.x.lt
                    refine hK.out _ _ (fun _ => ⟨P_69.out.x.cell 0, BR_69.out.three⟩) ?_
                    clear hK Kc
                    try simp only [List.getElem_toArray, List.getElem_cons_zero, List.getElem_cons_succ, Act.put, List.setIfInBounds_toArray, List.set_cons_zero, List.set_cons_succ]
                    generalize x68.heap.size = e0 at *
                    generalize x68.alloc (.cells #[] 48) = x69 at *
                    clear P_68 BR_68 B5_68 BL_68
                    refine wpAnyN_next (i := 3) rfl (by kernel_rfl) (fun Kc hK => ?_)
                    refine step_copyL (by rfl) _ _ _ (by rfl) w.heap.size 48 3 32 elem_rule Fac.cells e0 (by rfl) OE_69.out ⟨ga, 0, none⟩ n c rs (by rfl) HLn.out hn0 (Hnews.out _ P_69.out) (fun x _ => fac_len x) (fun x _ => one_fac x) (by omega) (by omega) (by unfold maxLen; omega) P_69.out.e.size ?_
                    intro A3 c3 x70 own3 hg3 at3
                    obtain ⟨o3, cap3, hv3, _, _⟩ := own3.form hn0
                    obtain rfl : A3 = some ⟨o3, 0, none⟩ := by injection hv3
                    have h3_gr : gr < x69.heap.size := BR_69.out.lt
                    have h3_ga : ga < x69.heap.size := (P_69.out.q.lt ga rfl).2
                    have h3_g5 : g5 < x69.heap.size := B5_69.out.lt
                    have h3_g8 : g8 < x69.heap.size := BL_69.out.lt
                    have at3 : o3 = e0 ∨ o3 = x69.heap.size := at3.imp (fun h => Option.some.inj h) (fun h => Option.some.inj h)
                    have o3_low : w.heap.size + 1 < o3 := by have h := P_69.out.x.lt; rcases at3 with h3 | h3 <;> omega
                    have o3_gr : gr ≠ o3 := by rcases at3 with h3 | h3 <;> omega
                    have o3_ga : ga ≠ o3 := by rcases at3 with h3 | h3 <;> omega
                    have o3_g5 : g5 ≠ o3 := by rcases at3 with h3 | h3 <;> omega
                    have o3_g8 : g8 ≠ o3 := by rcases at3 with h3 | h3 <;> omega
                    have P_70 := Lib.hid (P_69.out.keepAt hg3 (show w.heap.size + 2 ≤ e0 by omega) (by omega))
                    have BR_70 := Lib.hid (BR_69.out.grown hg3 (by intro e; injection e with e; omega))
                    have B5_70 := Lib.hid (B5_69.out.grown hg3 (by intro e; injection e with e; omega))
                    have BL_70 := Lib.hid (BL_69.out.grown hg3 (by intro e; injection e with e; omega))
                    have OC_70 := Lib.hid own3
                    refine hK.out _ _ (fun _ => ⟨P_70.out.x.cell 0, BR_70.out.three⟩) ?_
                    clear hK Kc own3 hg3 at3 hv3 h3_gr h3_ga h3_g5 h3_g8
                    try simp only [List.getElem_toArray, List.getElem_cons_zero, List.getElem_cons_succ, Act.put, List.setIfInBounds_toArray, List.set_cons_zero, List.set_cons_succ]
                    clear P_69 BR_69 OE_69 B5_69 BL_69
                    refine wpAnyN_next (i := 6) rfl (by kernel_rfl) (fun Kc hK => ?_)
                    refine step_pushL (by rfl) _ _ _ (by rfl) w.heap.size 48 3 32 elem_rule Fac.cells (some ⟨o3, 0, none⟩) n c3 rs (by rfl) OC_70.out g5 ⟨⟨#[]⟩, l, r⟩ #[.string .empty, .int .i64 l, .int .i64 r] 48 (0, 0) (by rfl) B5_70.out rfl rfl (one_fac _) (by omega) (by omega) (by unfold maxLen; omega) P_70.out.e.size ?_
                    intro A6 c6 x71 own6 hg6 at6
                    have P_71 := Lib.hid (P_70.out.keepAt hg6 (show w.heap.size + 2 ≤ o3 by omega) (by omega))
                    have BR_71 := Lib.hid (BR_70.out.grown hg6 (by intro e; have e2 : some gr = some o3 := e; injection e2 with e2; omega))
                    have BL_71 := Lib.hid (BL_70.out.grown hg6 (by intro e; have e2 : some g8 = some o3 := e; injection e2 with e2; omega))
                    have O6_71 := Lib.hid own6
                    refine hK.out _ _ (fun h => absurd h (by decide)) ?_
                    clear hK Kc own6 hg6 at6
                    try simp only [List.getElem_toArray, List.getElem_cons_zero, List.getElem_cons_succ, Act.put, List.setIfInBounds_toArray, List.set_cons_zero, List.set_cons_succ]
                    clear P_70 BR_70 OC_70 B5_70 BL_70
                    refine wpAnyN_next (i := 7) rfl (by kernel_rfl) (fun Kc hK => ?_)
                    go_simp
                    refine hK.out _ _ (fun h => absurd h (by decide)) ?_
                    clear hK Kc
                    try simp only [List.getElem_toArray, List.getElem_cons_zero, List.getElem_cons_succ, Act.put, List.setIfInBounds_toArray, List.set_cons_zero, List.set_cons_succ]
                    refine wpAnyN_next (i := 9) rfl (by kernel_rfl) (fun Kc hK => ?_)
                    have b9c := BL_71.out.cell 0
                    have b9f := BL_71.out.frozen
                    have b9l := BL_71.out.lt
                    go_simp
                    have P_73 := Lib.hid (P_71.out.keepAt (gb_set x71 g8 0 (.slice A6 (n + 1) c6)) (show w.heap.size + 2 ≤ g8 by omega) (by omega))
                    have BL_73 := Lib.hid (BL_71.out.set_ 0 (.slice A6 (n + 1) c6))
                    have O6_73 := Lib.hid (own_kept' (i := 0) O6_71.out BL_71.out (by decide) (.slice A6 (n + 1) c6))
                    refine hK.out _ _ (fun h => absurd h (by decide)) ?_
                    clear hK Kc b9c b9f b9l
                    try simp only [List.getElem_toArray, List.getElem_cons_zero, List.getElem_cons_succ, Act.put, List.setIfInBounds_toArray, List.set_cons_zero, List.set_cons_succ]
                    refine wpAnyN_done (by kernel_rfl) ?_ _
                    go_wp2_with fail
                    go_meet
                    exact ⟨g8, A6, c6, rfl, P_73, BL_73, O6_73, Lib.hid g8_low⟩
                · intro Kc hK
                  go_simp
                  have P_74 := Lib.hid (P_0.out.alloc (.cells #[.slice none 0 0] 26))
                  have BR_74 := Lib.hid (BR_0.out.alloc (.cells #[.slice none 0 0] 26))
                  have BL_74 := Lib.hid (Blk.new wd 26 #[.slice none 0 0])
                  have ng8_gr : gr < wd.heap.size := BR_0.out.lt
                  have ng8_ga : ga < wd.heap.size := (P_0.out.q.lt ga rfl).2
                  have g8_low : w.heap.size + 1 < wd.heap.size := P_0.out.x.lt
                  refine hK.out _ _ (fun _ => ⟨P_74.out.x.cell 0, BR_74.out.three⟩) ?_
                  clear hK Kc
                  try simp only [List.getElem_toArray, List.getElem_cons_zero, List.getElem_cons_succ, Act.put, List.setIfInBounds_toArray, List.set_cons_zero, List.set_cons_succ]
                  generalize wd.heap.size = g8 at *
                  generalize wd.alloc (.cells #[.slice none 0 0] 26) = x74 at *
                  clear P_0 BR_0
                  refine wpAnyN_2 (i := 0) (j := 5) rfl rfl (by kernel_rfl) ?_ ?_
                  · intro Kc hK
                    go_simp
                    have P_75 := Lib.hid (P_74.out.alloc (.cells #[] 48))
                    have BR_75 := Lib.hid (BR_74.out.alloc (.cells #[] 48))
                    have BL_75 := Lib.hid (BL_74.out.alloc (.cells #[] 48))
                    have OE_75 := Lib.hid (World.ownsRow_made (base := w.heap.size) (e := 48) (size := 3) x74 #[] 0 (by have := P_74.out.x.lt; omega) (by unfold maxLen; omega) rfl)
                    have ne0_gr : gr < x74.heap.size := BR_74.out.lt
                    have ne0_ga : ga < x74.heap.size := (P_74.out.q.lt ga rfl).2
                    have ne0_g8 : g8 < x74.heap.size := BL_74.out.lt
                    have e0_low : w.heap.size + 1 < x74.heap.size := P_74.out.x.lt
                    refine hK.out _ _ (fun _ => ⟨P_75.out.x.cell 0, BR_75.out.three⟩) ?_
                    clear hK Kc
                    try simp only [List.getElem_toArray, List.getElem_cons_zero, List.getElem_cons_succ, Act.put, List.setIfInBounds_toArray, List.set_cons_zero, List.set_cons_succ]
                    generalize x74.heap.size = e0 at *
                    generalize x74.alloc (.cells #[] 48) = x75 at *
                    clear P_74 BR_74 BL_74
                    refine wpAnyN_2 (i := 3) (j := 5) rfl rfl (by kernel_rfl) ?_ ?_
                    · intro Kc hK
                      refine step_copyL (by rfl) _ _ _ (by rfl) w.heap.size 48 3 32 elem_rule Fac.cells e0 (by rfl) OE_75.out ⟨ga, 0, none⟩ n c rs (by rfl) HLn.out hn0 (Hnews.out _ P_75.out) (fun x _ => fac_len x) (fun x _ => one_fac x) (by omega) (by omega) (by unfold maxLen; omega) P_75.out.e.size ?_
                      intro A3 c3 x76 own3 hg3 at3
                      obtain ⟨o3, cap3, hv3, _, _⟩ := own3.form hn0
                      obtain rfl : A3 = some ⟨o3, 0, none⟩ := by injection hv3
                      have h3_gr : gr < x75.heap.size := BR_75.out.lt
                      have h3_ga : ga < x75.heap.size := (P_75.out.q.lt ga rfl).2
                      have h3_g8 : g8 < x75.heap.size := BL_75.out.lt
                      have at3 : o3 = e0 ∨ o3 = x75.heap.size := at3.imp (fun h => Option.some.inj h) (fun h => Option.some.inj h)
                      have o3_low : w.heap.size + 1 < o3 := by have h := P_75.out.x.lt; rcases at3 with h3 | h3 <;> omega
                      have o3_gr : gr ≠ o3 := by rcases at3 with h3 | h3 <;> omega
                      have o3_ga : ga ≠ o3 := by rcases at3 with h3 | h3 <;> omega
                      have o3_g8 : g8 ≠ o3 := by rcases at3 with h3 | h3 <;> omega
                      have P_76 := Lib.hid (P_75.out.keepAt hg3 (show w.heap.size + 2 ≤ e0 by omega) (by omega))
                      have BR_76 := Lib.hid (BR_75.out.grown hg3 (by intro e; injection e with e; omega))
                      have BL_76 := Lib.hid (BL_75.out.grown hg3 (by intro e; injection e with e; omega))
                      have OC_76 := Lib.hid own3
                      refine hK.out _ _ (fun _ => ⟨P_76.out.x.cell 0, BR_76.out.three⟩) ?_
                      clear hK Kc own3 hg3 at3 hv3 h3_gr h3_ga h3_g8
                      try simp only [List.getElem_toArray, List.getElem_cons_zero, List.getElem_cons_succ, Act.put, List.setIfInBounds_toArray, List.set_cons_zero, List.set_cons_succ]
                      clear P_75 BR_75 OE_75 BL_75
                      refine wpAnyN_next (i := 5) rfl (by kernel_rfl) (fun Kc hK => ?_)
                      go_simp
                      have P_77 := Lib.hid (P_76.out.alloc (.cells #[.string .empty, .int .i64 l, .int .i64 r] 48))
                      have BR_77 := Lib.hid (BR_76.out.alloc (.cells #[.string .empty, .int .i64 l, .int .i64 r] 48))
                      have OC_77 := Lib.hid (OC_76.out.alloc (.cells #[.string .empty, .int .i64 l, .int .i64 r] 48))
                      have BL_77 := Lib.hid (BL_76.out.alloc (.cells #[.string .empty, .int .i64 l, .int .i64 r] 48))
                      have B5_77 := Lib.hid (Blk.new x76 48 #[.string .empty, .int .i64 l, .int .i64 r])
                      have ng5_gr : gr < x76.heap.size := BR_76.out.lt
                      have ng5_ga : ga < x76.heap.size := (P_76.out.q.lt ga rfl).2
                      have ng5_o3 : o3 < x76.heap.size := (OC_76.out.lt o3 rfl).2
                      have ng5_g8 : g8 < x76.heap.size := BL_76.out.lt
                      have g5_low : w.heap.size + 1 < x76.heap.size := P_76.out.x.lt
                      refine hK.out _ _ (fun _ => ⟨P_77.out.x.cell 0, BR_77.out.three⟩) ?_
                      clear hK Kc
                      try simp only [List.getElem_toArray, List.getElem_cons_zero, List.getElem_cons_succ, Act.put, List.setIfInBounds_toArray, List.set_cons_zero, List.set_cons_succ]
                      generalize x76.heap.size = g5 at *
                      generalize x76.alloc (.cells #[.string .empty, .int .i64 l, .int .i64 r] 48) = x77 at *
                      clear P_76 BR_76 OC_76 BL_76
                      refine wpAnyN_next (i := 6) rfl (by kernel_rfl) (fun Kc hK => ?_)
                      refine step_pushL (by rfl) _ _ _ (by rfl) w.heap.size 48 3 32 elem_rule Fac.cells (some ⟨o3, 0, none⟩) n c3 rs (by rfl) OC_77.out g5 ⟨⟨#[]⟩, l, r⟩ #[.string .empty, .int .i64 l, .int .i64 r] 48 (0, 0) (by rfl) B5_77.out rfl rfl (one_fac _) (by omega) (by omega) (by unfold maxLen; omega) P_77.out.e.size ?_
                      intro A6 c6 x78 own6 hg6 at6
                      have P_78 := Lib.hid (P_77.out.keepAt hg6 (show w.heap.size + 2 ≤ o3 by omega) (by omega))
                      have BR_78 := Lib.hid (BR_77.out.grown hg6 (by intro e; have e2 : some gr = some o3 := e; injection e2 with e2; omega))
                      have BL_78 := Lib.hid (BL_77.out.grown hg6 (by intro e; have e2 : some g8 = some o3 := e; injection e2 with e2; omega))
                      have O6_78 := Lib.hid own6
                      refine hK.out _ _ (fun h => absurd h (by decide)) ?_
                      clear hK Kc own6 hg6 at6
                      try simp only [List.getElem_toArray, List.getElem_cons_zero, List.getElem_cons_succ, Act.put, List.setIfInBounds_toArray, List.set_cons_zero, List.set_cons_succ]
                      clear P_77 BR_77 OC_77 B5_77 BL_77
                      refine wpAnyN_next (i := 7) rfl (by kernel_rfl) (fun Kc hK => ?_)
                      go_simp
                      refine hK.out _ _ (fun h => absurd h (by decide)) ?_
                      clear hK Kc
                      try simp only [List.getElem_toArray, List.getElem_cons_zero, List.getElem_cons_succ, Act.put, List.setIfInBounds_toArray, List.set_cons_zero, List.set_cons_succ]
                      refine wpAnyN_next (i := 9) rfl (by kernel_rfl) (fun Kc hK => ?_)
                      have b9c := BL_78.out.cell 0
                      have b9f := BL_78.out.frozen
                      have b9l := BL_78.out.lt
                      go_simp
                      have P_80 := Lib.hid (P_78.out.keepAt (gb_set x78 g8 0 (.slice A6 (n + 1) c6)) (show w.heap.size + 2 ≤ g8 by omega) (by omega))
                      have BL_80 := Lib.hid (BL_78.out.set_ 0 (.slice A6 (n + 1) c6))
                      have O6_80 := Lib.hid (own_kept' (i := 0) O6_78.out BL_78.out (by decide) (.slice A6 (n + 1) c6))
                      refine hK.out _ _ (fun h => absurd h (by decide)) ?_
                      clear hK Kc b9c b9f b9l
                      try simp only [List.getElem_toArray, List.getElem_cons_zero, List.getElem_cons_succ, Act.put, List.setIfInBounds_toArray, List.set_cons_zero, List.set_cons_succ]
                      refine wpAnyN_done (by kernel_rfl) ?_ _
                      go_wp2_with fail
                      go_meet
                      exact ⟨g8, A6, c6, rfl, P_80, BL_80, O6_80, Lib.hid g8_low⟩
                    · intro Kc hK
                      go_simp
                      have P_81 := Lib.hid (P_75.out.alloc (.cells #[.string .empty, .int .i64 l, .int .i64 r] 48))
                      have BR_81 := Lib.hid (BR_75.out.alloc (.cells #[.string .empty, .int .i64 l, .int .i64 r] 48))
                      have OE_81 := Lib.hid (OE_75.out.alloc (.cells #[.string .empty, .int .i64 l, .int .i64 r] 48))
                      have BL_81 := Lib.hid (BL_75.out.alloc (.cells #[.string .empty, .int .i64 l, .int .i64 r] 48))
                      have B5_81 := Lib.hid (Blk.new x75 48 #[.string .empty, .int .i64 l, .int .i64 r])
                      have ng5_gr : gr < x75.heap.size := BR_75.out.lt
                      have ng5_ga : ga < x75.heap.size := (P_75.out.q.lt ga rfl).2
                      have ng5_e0 : e0 < x75.heap.size := (OE_75.out.lt e0 rfl).2
                      have ng5_g8 : g8 < x75.heap.size := BL_75.out.lt
                      have g5_low : w.heap.size + 1 < x75.heap.size := P_75.out.x.lt
                      refine hK.out _ _ (fun _ => ⟨P_81.out.x.cell 0, BR_81.out.three⟩) ?_
                      clear hK Kc
                      try simp only [List.getElem_toArray, List.getElem_cons_zero, List.getElem_cons_succ, Act.put, List.setIfInBounds_toArray, List.set_cons_zero, List.set_cons_succ]
                      generalize x75.heap.size = g5 at *
                      generalize x75.alloc (.cells #[.string .empty, .int .i64 l, .int .i64 r] 48) = x81 at *
                      clear P_75 BR_75 OE_75 BL_75
                      refine wpAnyN_next (i := 3) rfl (by kernel_rfl) (fun Kc hK => ?_)
                      refine step_copyL (by rfl) _ _ _ (by rfl) w.heap.size 48 3 32 elem_rule Fac.cells e0 (by rfl) OE_81.out ⟨ga, 0, none⟩ n c rs (by rfl) HLn.out hn0 (Hnews.out _ P_81.out) (fun x _ => fac_len x) (fun x _ => one_fac x) (by omega) (by omega) (by unfold maxLen; omega) P_81.out.e.size ?_
                      intro A3 c3 x82 own3 hg3 at3
                      obtain ⟨o3, cap3, hv3, _, _⟩ := own3.form hn0
                      obtain rfl : A3 = some ⟨o3, 0, none⟩ := by injection hv3
                      have h3_gr : gr < x81.heap.size := BR_81.out.lt
                      have h3_ga : ga < x81.heap.size := (P_81.out.q.lt ga rfl).2
                      have h3_g5 : g5 < x81.heap.size := B5_81.out.lt
                      have h3_g8 : g8 < x81.heap.size := BL_81.out.lt
                      have at3 : o3 = e0 ∨ o3 = x81.heap.size := at3.imp (fun h => Option.some.inj h) (fun h => Option.some.inj h)
                      have o3_low : w.heap.size + 1 < o3 := by have h := P_81.out.x.lt; rcases at3 with h3 | h3 <;> omega
                      have o3_gr : gr ≠ o3 := by rcases at3 with h3 | h3 <;> omega
                      have o3_ga : ga ≠ o3 := by rcases at3 with h3 | h3 <;> omega
                      have o3_g5 : g5 ≠ o3 := by rcases at3 with h3 | h3 <;> omega
                      have o3_g8 : g8 ≠ o3 := by rcases at3 with h3 | h3 <;> omega
                      have P_82 := Lib.hid (P_81.out.keepAt hg3 (show w.heap.size + 2 ≤ e0 by omega) (by omega))
                      have BR_82 := Lib.hid (BR_81.out.grown hg3 (by intro e; injection e with e; omega))
                      have B5_82 := Lib.hid (B5_81.out.grown hg3 (by intro e; injection e with e; omega))
                      have BL_82 := Lib.hid (BL_81.out.grown hg3 (by intro e; injection e with e; omega))
                      have OC_82 := Lib.hid own3
                      refine hK.out _ _ (fun _ => ⟨P_82.out.x.cell 0, BR_82.out.three⟩) ?_
                      clear hK Kc own3 hg3 at3 hv3 h3_gr h3_ga h3_g5 h3_g8
                      try simp only [List.getElem_toArray, List.getElem_cons_zero, List.getElem_cons_succ, Act.put, List.setIfInBounds_toArray, List.set_cons_zero, List.set_cons_succ]
                      clear P_81 BR_81 OE_81 B5_81 BL_81
                      refine wpAnyN_next (i := 6) rfl (by kernel_rfl) (fun Kc hK => ?_)
                      refine step_pushL (by rfl) _ _ _ (by rfl) w.heap.size 48 3 32 elem_rule Fac.cells (some ⟨o3, 0, none⟩) n c3 rs (by rfl) OC_82.out g5 ⟨⟨#[]⟩, l, r⟩ #[.string .empty, .int .i64 l, .int .i64 r] 48 (0, 0) (by rfl) B5_82.out rfl rfl (one_fac _) (by omega) (by omega) (by unfold maxLen; omega) P_82.out.e.size ?_
                      intro A6 c6 x83 own6 hg6 at6
                      have P_83 := Lib.hid (P_82.out.keepAt hg6 (show w.heap.size + 2 ≤ o3 by omega) (by omega))
                      have BR_83 := Lib.hid (BR_82.out.grown hg6 (by intro e; have e2 : some gr = some o3 := e; injection e2 with e2; omega))
                      have BL_83 := Lib.hid (BL_82.out.grown hg6 (by intro e; have e2 : some g8 = some o3 := e; injection e2 with e2; omega))
                      have O6_83 := Lib.hid own6
                      refine hK.out _ _ (fun h => absurd h (by decide)) ?_
                      clear hK Kc own6 hg6 at6
                      try simp only [List.getElem_toArray, List.getElem_cons_zero, List.getElem_cons_succ, Act.put, List.setIfInBounds_toArray, List.set_cons_zero, List.set_cons_succ]
                      clear P_82 BR_82 OC_82 B5_82 BL_82
                      refine wpAnyN_next (i := 7) rfl (by kernel_rfl) (fun Kc hK => ?_)
                      go_simp
                      refine hK.out _ _ (fun h => absurd h (by decide)) ?_
                      clear hK Kc
                      try simp only [List.getElem_toArray, List.getElem_cons_zero, List.getElem_cons_succ, Act.put, List.setIfInBounds_toArray, List.set_cons_zero, List.set_cons_succ]
                      refine wpAnyN_next (i := 9) rfl (by kernel_rfl) (fun Kc hK => ?_)
                      have b9c := BL_83.out.cell 0
                      have b9f := BL_83.out.frozen
                      have b9l := BL_83.out.lt
                      go_simp
                      have P_85 := Lib.hid (P_83.out.keepAt (gb_set x83 g8 0 (.slice A6 (n + 1) c6)) (show w.heap.size + 2 ≤ g8 by omega) (by omega))
                      have BL_85 := Lib.hid (BL_83.out.set_ 0 (.slice A6 (n + 1) c6))
                      have O6_85 := Lib.hid (own_kept' (i := 0) O6_83.out BL_83.out (by decide) (.slice A6 (n + 1) c6))
                      refine hK.out _ _ (fun h => absurd h (by decide)) ?_
                      clear hK Kc b9c b9f b9l
                      try simp only [List.getElem_toArray, List.getElem_cons_zero, List.getElem_cons_succ, Act.put, List.setIfInBounds_toArray, List.set_cons_zero, List.set_cons_succ]
                      refine wpAnyN_done (by kernel_rfl) ?_ _
                      go_wp2_with fail
                      go_meet
                      exact ⟨g8, A6, c6, rfl, P_85, BL_85, O6_85, Lib.hid g8_low⟩
                  · intro Kc hK
                    go_simp
                    have P_86 := Lib.hid (P_74.out.alloc (.cells #[.string .empty, .int .i64 l, .int .i64 r] 48))
                    have BR_86 := Lib.hid (BR_74.out.alloc (.cells #[.string .empty, .int .i64 l, .int .i64 r] 48))
                    have BL_86 := Lib.hid (BL_74.out.alloc (.cells #[.string .empty, .int .i64 l, .int .i64 r] 48))
                    have B5_86 := Lib.hid (Blk.new x74 48 #[.string .empty, .int .i64 l, .int .i64 r])
                    have ng5_gr : gr < x74.heap.size := BR_74.out.lt
                    have ng5_ga : ga < x74.heap.size := (P_74.out.q.lt ga rfl).2
                    have ng5_g8 : g8 < x74.heap.size := BL_74.out.lt
                    have g5_low : w.heap.size + 1 < x74.heap.size := P_74.out.x.lt
                    refine hK.out _ _ (fun _ => ⟨P_86.out.x.cell 0, BR_86.out.three⟩) ?_
                    clear hK Kc
                    try simp only [List.getElem_toArray, List.getElem_cons_zero, List.getElem_cons_succ, Act.put, List.setIfInBounds_toArray, List.set_cons_zero, List.set_cons_succ]
                    generalize x74.heap.size = g5 at *
                    generalize x74.alloc (.cells #[.string .empty, .int .i64 l, .int .i64 r] 48) = x86 at *
                    clear P_74 BR_74 BL_74
                    refine wpAnyN_next (i := 0) rfl (by kernel_rfl) (fun Kc hK => ?_)
                    go_simp
                    have P_87 := Lib.hid (P_86.out.alloc (.cells #[] 48))
                    have BR_87 := Lib.hid (BR_86.out.alloc (.cells #[] 48))
                    have B5_87 := Lib.hid (B5_86.out.alloc (.cells #[] 48))
                    have BL_87 := Lib.hid (BL_86.out.alloc (.cells #[] 48))
                    have OE_87 := Lib.hid (World.ownsRow_made (base := w.heap.size) (e := 48) (size := 3) x86 #[] 0 (by have := P_86.out.x.lt; omega) (by unfold maxLen; omega) rfl)
                    have ne0_gr : gr < x86.heap.size := BR_86.out.lt
                    have ne0_ga : ga < x86.heap.size := (P_86.out.q.lt ga rfl).2
                    have ne0_g5 : g5 < x86.heap.size := B5_86.out.lt
                    have ne0_g8 : g8 < x86.heap.size := BL_86.out.lt
                    have e0_low : w.heap.size + 1 < x86.heap.size := P_86.out.x.lt
                    refine hK.out _ _ (fun _ => ⟨P_87.out.x.cell 0, BR_87.out.three⟩) ?_
                    clear hK Kc
                    try simp only [List.getElem_toArray, List.getElem_cons_zero, List.getElem_cons_succ, Act.put, List.setIfInBounds_toArray, List.set_cons_zero, List.set_cons_succ]
                    generalize x86.heap.size = e0 at *
                    generalize x86.alloc (.cells #[] 48) = x87 at *
                    clear P_86 BR_86 B5_86 BL_86
                    refine wpAnyN_next (i := 3) rfl (by kernel_rfl) (fun Kc hK => ?_)
                    refine step_copyL (by rfl) _ _ _ (by rfl) w.heap.size 48 3 32 elem_rule Fac.cells e0 (by rfl) OE_87.out ⟨ga, 0, none⟩ n c rs (by rfl) HLn.out hn0 (Hnews.out _ P_87.out) (fun x _ => fac_len x) (fun x _ => one_fac x) (by omega) (by omega) (by unfold maxLen; omega) P_87.out.e.size ?_
                    intro A3 c3 x88 own3 hg3 at3
                    obtain ⟨o3, cap3, hv3, _, _⟩ := own3.form hn0
                    obtain rfl : A3 = some ⟨o3, 0, none⟩ := by injection hv3
                    have h3_gr : gr < x87.heap.size := BR_87.out.lt
                    have h3_ga : ga < x87.heap.size := (P_87.out.q.lt ga rfl).2
                    have h3_g5 : g5 < x87.heap.size := B5_87.out.lt
                    have h3_g8 : g8 < x87.heap.size := BL_87.out.lt
                    have at3 : o3 = e0 ∨ o3 = x87.heap.size := at3.imp (fun h => Option.some.inj h) (fun h => Option.some.inj h)
                    have o3_low : w.heap.size + 1 < o3 := by have h := P_87.out.x.lt; rcases at3 with h3 | h3 <;> omega
                    have o3_gr : gr ≠ o3 := by rcases at3 with h3 | h3 <;> omega
                    have o3_ga : ga ≠ o3 := by rcases at3 with h3 | h3 <;> omega
                    have o3_g5 : g5 ≠ o3 := by rcases at3 with h3 | h3 <;> omega
                    have o3_g8 : g8 ≠ o3 := by rcases at3 with h3 | h3 <;> omega
                    have P_88 := Lib.hid (P_87.out.keepAt hg3 (show w.heap.size + 2 ≤ e0 by omega) (by omega))
                    have BR_88 := Lib.hid (BR_87.out.grown hg3 (by intro e; injection e with e; omega))
                    have B5_88 := Lib.hid (B5_87.out.grown hg3 (by intro e; injection e with e; omega))
                    have BL_88 := Lib.hid (BL_87.out.grown hg3 (by intro e; injection e with e; omega))
                    have OC_88 := Lib.hid own3
                    refine hK.out _ _ (fun _ => ⟨P_88.out.x.cell 0, BR_88.out.three⟩) ?_
                    clear hK Kc own3 hg3 at3 hv3 h3_gr h3_ga h3_g5 h3_g8
                    try simp only [List.getElem_toArray, List.getElem_cons_zero, List.getElem_cons_succ, Act.put, List.setIfInBounds_toArray, List.set_cons_zero, List.set_cons_succ]
                    clear P_87 BR_87 OE_87 B5_87 BL_87
                    refine wpAnyN_next (i := 6) rfl (by kernel_rfl) (fun Kc hK => ?_)
                    refine step_pushL (by rfl) _ _ _ (by rfl) w.heap.size 48 3 32 elem_rule Fac.cells (some ⟨o3, 0, none⟩) n c3 rs (by rfl) OC_88.out g5 ⟨⟨#[]⟩, l, r⟩ #[.string .empty, .int .i64 l, .int .i64 r] 48 (0, 0) (by rfl) B5_88.out rfl rfl (one_fac _) (by omega) (by omega) (by unfold maxLen; omega) P_88.out.e.size ?_
                    intro A6 c6 x89 own6 hg6 at6
                    have P_89 := Lib.hid (P_88.out.keepAt hg6 (show w.heap.size + 2 ≤ o3 by omega) (by omega))
                    have BR_89 := Lib.hid (BR_88.out.grown hg6 (by intro e; have e2 : some gr = some o3 := e; injection e2 with e2; omega))
                    have BL_89 := Lib.hid (BL_88.out.grown hg6 (by intro e; have e2 : some g8 = some o3 := e; injection e2 with e2; omega))
                    have O6_89 := Lib.hid own6
                    refine hK.out _ _ (fun h => absurd h (by decide)) ?_
                    clear hK Kc own6 hg6 at6
                    try simp only [List.getElem_toArray, List.getElem_cons_zero, List.getElem_cons_succ, Act.put, List.setIfInBounds_toArray, List.set_cons_zero, List.set_cons_succ]
                    clear P_88 BR_88 OC_88 B5_88 BL_88
                    refine wpAnyN_next (i := 7) rfl (by kernel_rfl) (fun Kc hK => ?_)
                    go_simp
                    refine hK.out _ _ (fun h => absurd h (by decide)) ?_
                    clear hK Kc
                    try simp only [List.getElem_toArray, List.getElem_cons_zero, List.getElem_cons_succ, Act.put, List.setIfInBounds_toArray, List.set_cons_zero, List.set_cons_succ]
                    refine wpAnyN_next (i := 9) rfl (by kernel_rfl) (fun Kc hK => ?_)
                    have b9c := BL_89.out.cell 0
                    have b9f := BL_89.out.frozen
                    have b9l := BL_89.out.lt
                    go_simp
                    have P_91 := Lib.hid (P_89.out.keepAt (gb_set x89 g8 0 (.slice A6 (n + 1) c6)) (show w.heap.size + 2 ≤ g8 by omega) (by omega))
                    have BL_91 := Lib.hid (BL_89.out.set_ 0 (.slice A6 (n + 1) c6))
                    have O6_91 := Lib.hid (own_kept' (i := 0) O6_89.out BL_89.out (by decide) (.slice A6 (n + 1) c6))
                    refine hK.out _ _ (fun h => absurd h (by decide)) ?_
                    clear hK Kc b9c b9f b9l
                    try simp only [List.getElem_toArray, List.getElem_cons_zero, List.getElem_cons_succ, Act.put, List.setIfInBounds_toArray, List.set_cons_zero, List.set_cons_succ]
                    refine wpAnyN_done (by kernel_rfl) ?_ _
                    go_wp2_with fail
                    go_meet
                    exact ⟨g8, A6, c6, rfl, P_91, BL_91, O6_91, Lib.hid g8_low⟩
              case rest =>
                obtain ⟨g8, A6, c6, rfl, P2, BL2, O2, Hlow⟩ := hcut
                clear P BR
                have hwf2 := Lib.hid (wf_snoc' HOk.out.wf l0 (by rw [HLn.out]; exact l1) r0 (by rw [HLn.out]; exact r1))
                have hl2 := Lib.hid (show (rs ++ [(⟨.empty, l, r⟩ : Fac)]).length = n + 1 by rw [List.length_append, HLn.out]; rfl)
                generalize rs ++ [(⟨.empty, l, r⟩ : Fac)] = rs2 at *
                have hgk := dg_gok hwf2.out (by rw [hl2.out]; omega)
                obtain ⟨ls2, hls2⟩ := Option.isSome_iff_exists.1 hgk
                have Hls := Lib.hid hls2
                have R2 := Lib.hid (Rd.of_own (fun x _ => fac_len x) hl2.out O2.out)
                have OKC := Lib.hid (l02Ok_any g8 A6 (n + 1) c6 rs2 wc BL2.out.lt (BL2.out.cell 0) (by omega) R2.out (wf_sz hwf2.out) true hgk)
                have LEC := Lib.hid (fun W (hb : Below wc.heap.size wc W) => l02Length_any g8 A6 (n + 1) c6 rs2 W (by have := BL2.out.lt; have := hb.size; omega) ((BL2.out.next hb).cell 0) (by omega) (R2.out.next hb) (wf_sz hwf2.out) ls2 (gOk_lens hls2).1)
                have HLast := Lib.hid (last_word (gOk_lens hls2).1)
                have hw1 : (wdN rs2).length ≤ 2 ^ 14 := by
                  have h1 := wds_pow hwf2.out n (by rw [hl2.out]; omega)
                  have h2 : 2 ^ n ≤ 2 ^ 14 := Nat.pow_le_pow_right (by omega) (by omega)
                  unfold wdN
                  rw [if_neg (by intro e; have := hl2.out; rw [e] at this; simp at this), hl2.out, Nat.add_sub_cancel]
                  omega
                rw [HLast.out] at LEC
                obtain ⟨wl, hwl⟩ : ∃ wl, (wdN rs2).length = wl := ⟨_, rfl⟩
                rw [hwl] at LEC hw1
                have HWl := Lib.hid hwl
                clear hls2 hgk hwl l0 l1 r0 r1
                go_wp2_with fail
                refine OKC.out.mono ?_
                rintro e wk ⟨rfl, hbk⟩
                have Pk := Lib.hid (P2.out.next hbk)
                have BLk := Lib.hid (BL2.out.next hbk)
                have Ok_ := Lib.hid (own_next O2.out hbk)
                have HBk := Lib.hid hbk
                clear hbk P2 BL2 O2
                go_wp2_with fail
                refine (LEC.out wk HBk.out).mono ?_
                rintro e wn ⟨rfl, hbn⟩
                have Pn := Lib.hid (Pk.out.next hbn)
                have BLn := Lib.hid (BLk.out.next hbn)
                have On := Lib.hid (own_next Ok_.out hbn)
                have g0 := BLn.out.cell 0
                have gl := BLn.out.lt
                have x0 := Pn.out.x.cell 0
                have xf := Pn.out.x.frozen
                have xl := Pn.out.x.lt
                have r0 := Pn.out.r.cell 0
                have rf := Pn.out.r.frozen
                have rl := Pn.out.r.lt
                clear hbn Pk BLk Ok_ HBk
                by_cases hml : most < (wl : Int)
                · have FIN := Lib.hid (Pn.out.done HLn.out)
                  have x5 := (Pn.out.r.set_ 0 (.slice (some ⟨ga, 0, none⟩) n c)).cell 0
                  go_wp2_with fail
                  refine bodyPost_ret (v := .agg #[.slice (some ⟨ga, 0, none⟩) n c]) (by simp [results, Tryd.results16, go_sem]; rw [x5]; rfl) rfl ?_
                  exact ⟨_, c, rs, by rw [HLn.out], HOk.out, FIN.out.1, FIN.out.2.1.mono (by omega), FIN.out.2.2⟩
                · have Pp := Lib.hid (Pn.out.put On.out)
                  have HOk2 := Lib.hid (show DgOk rs2 most from ⟨hwf2.out, by rw [hl2.out]; omega, by rw [hl2.out]; omega, by rw [HWl.out]; omega⟩)
                  go_wp2_with fail
                  go_roundw
                  case rel => exact ⟨z - 1, A6, n + 1, c6, K3, rs2, by go_num, by omega, by omega, by omega, hl2, HOk2, Pp⟩
                  case measure => simp [intOf]; omega
        · have z1 : ¬ (0 : Int) < (z : Int) := by omega
          have r0 := P.out.r.cell 0
          have rf := P.out.r.frozen
          have rl := P.out.r.lt
          have FIN := Lib.hid (P.out.done HLn.out)
          have x5 := (P.out.r.set_ 0 (.slice A n c)).cell 0
          go_wp2_with fail
          refine bodyPost_ret (v := .agg #[.slice A n c]) (by simp [results, Tryd.results16, go_sem]; rw [x5]; rfl) rfl ?_
          exact ⟨_, c, rs, by rw [HLn.out], HOk.out, FIN.out.1, FIN.out.2.1.mono (by omega), FIN.out.2.2⟩
end Go.Proofs.YtnhkoinjjbfofaaDoor


/-
  The words that a law draws.
-/
namespace Go.Proofs.YtnhkoinjjbfofaaDoor
open Go.RowKit

/-- a list of bytes, as the walk reads it -/
theorem Rd.bytes {w : World} {B n : Nat} {A : Option Addr} {zs : List Int} (h : Rd w B A n 1 (fun z => [.int .u8 z]) zs) (ok : ∀ z ∈ zs, 0 ≤ z ∧ z < 256) : Rd w B A n 1 byteE (zs.map fun z => UInt8.ofNat z.toNat) := by
  refine ⟨by rw [List.length_map]; exact h.len, fun hn => ?_⟩
  obtain ⟨b, o, hA, hb, hc⟩ := h.2 hn
  refine ⟨b, o, hA, hb, fun k x hx j v hv => ?_⟩
  rw [List.getElem?_map] at hx
  obtain ⟨z, hz, rfl⟩ := Option.map_eq_some_iff.1 hx
  obtain ⟨h0, h1⟩ := ok z (List.mem_of_getElem? hz)
  obtain ⟨m, rfl⟩ := Int.eq_ofNat_of_zero_le h0
  have e : (UInt8.ofNat m).toNat = m := by rw [UInt8.toNat_ofNat']; omega
  have := hc k _ hz j v (by
    rcases j with _ | j
    · simpa [byteE, e] using hv
    · simp [byteE] at hv)
  exact this

def SrcNew (w : World) (e : Ending) (w' : World) : Prop := ∃ g, e = .returned (.pointer (some ⟨g, 0, none⟩)) ∧ w.heap.size ≤ g ∧ Src w' g 0 ∧ Below w.heap.size w w'
theorem l00From_any (A : Option Addr) (n c : Nat) (bs : List UInt8) (w : World) (hn : n ≤ 4096) (hr : Rd w w.heap.size A n 1 byteE bs) :
    Calls Tryd.prog 17 #[.slice A n c] w (SrcNew w) := by
  go_enter Tryd.func17, Tryd.ntmps17
  go_wp2_with fail
  go_ret
  exact ⟨w.heap.size, rfl, Nat.le_refl _, ⟨A, n, c, 0, bs, 0, Nat.le_refl _, hn, ⟨by omega, by omega⟩, Blk.new _ _ _, hr.below (by (repeat first | exact Below.refl _ _ | assumption | refine Below.drew ?_ | refine Below.alloc ?_ (by first | exact Nat.le_refl _ | (simp; done) | omega | (simp; omega)) _ | refine Below.setCell ?_ (by first | exact Nat.le_refl _ | (simp; done) | omega | (simp; omega)) _))⟩, by (repeat first | exact Below.refl _ _ | assumption | refine Below.drew ?_ | refine Below.alloc ?_ (by first | exact Nat.le_refl _ | (simp; done) | omega | (simp; omega)) _ | refine Below.setCell ?_ (by first | exact Nat.le_refl _ | (simp; done) | omega | (simp; omega)) _)⟩
/-- what a drawn word leaves -/
def WordPost (w : World) (most : Int) (e : Ending) (w' : World) : Prop := ∃ s : ByteArray, e = .returned (.string s) ∧ (s.size : Int) ≤ most ∧ s.data.toList.all letB = true ∧ Below w.heap.size w w'
end Go.Proofs.YtnhkoinjjbfofaaDoor


/-
  The grammars that a law draws.
-/
namespace Go.Proofs.YtnhkoinjjbfofaaDoor
open Go.RowKit

/-- a grammar that is drawn, in memory of its own -/
def GrNew (w : World) (most : Int) (e : Ending) (w' : World) : Prop :=
  ∃ A c rs, e = .returned (.agg #[.slice A rs.length c]) ∧ DgOk rs most ∧ w'.ownsRow w.heap.size 48 3 (.slice A rs.length c) rs.length (rs.flatMap Fac.cells) ∧ Below w.heap.size w w'
theorem DgOk.gok {rs : List Fac} {most : Int} (h : DgOk rs most) : (gOk rs).isSome = true := small_ok h.wf (by have := h.few; omega)
set_option maxHeartbeats 1000000 in
theorem a2Grammar_any (A : Option Addr) (n c : Nat) (bs : List UInt8) (most : Int) (w : World) (hn : n ≤ 4096) (hr : Rd w w.heap.size A n 1 byteE bs) (hm0 : 1 ≤ most) (hm : most ≤ 100000) :
    Calls Tryd.prog 5 #[.slice A n c, .int .i64 most] w (GrNew w most) := by
  have HR := Lib.hid hr; clear hr
  go_enter Tryd.func5, Tryd.ntmps5
  go_wp2_with fail
  refine namedC fun w0 H0 => ?_
  have hb0 : Below w.heap.size w w0 := by rw [H0.out]; (repeat first | exact Below.refl _ _ | assumption | refine Below.drew ?_ | refine Below.alloc ?_ (by first | exact Nat.le_refl _ | (simp; done) | omega | (simp; omega)) _ | refine Below.setCell ?_ (by first | exact Nat.le_refl _ | (simp; done) | omega | (simp; omega)) _)
  have B0 := Lib.hid (show Blk w0 w.heap.size 26 #[.slice none 0 0] by rw [H0.out]; exact Blk.new _ _ _)
  clear H0
  refine (l00From_any A n c bs w0 hn (HR.out.next hb0)).mono ?_
  rintro e w1 ⟨g, rfl, hg, s1, hb1⟩
  have b1 := hb0.trans (hb1.mono hb0.size)
  have B1 := Lib.hid (B0.out.next hb1)
  have hlt := B0.out.lt
  go_wp2_with fail
  refine (l02Drawn_any g 0 most w1 s1 (by omega) hm0 hm).mono ?_
  rintro e w2 ⟨A2, c2, rs, rfl, ok, own2, s2, g2⟩
  have B2 := Lib.hid (B1.out.grown g2 (by intro e; injection e with e; omega))
  have b2 := Lib.hid (b1.grown g2 b1.size (fun k e => by injection e; omega))
  have O2 := Lib.hid (own_kept' (i := 0) (own2.mono b1.size) B2.out (by decide) (.slice A2 rs.length c2))
  have Ok := Lib.hid ok
  have r0 := B2.out.cell 0
  have rf := B2.out.frozen
  have rl := B2.out.lt
  have x5 := (B2.out.set_ 0 (.slice A2 rs.length c2)).cell 0
  have b3 := Lib.hid (b2.out.setCell (p := ⟨w.heap.size, 0, none⟩) (Nat.le_refl _) (.slice A2 rs.length c2))
  clear own2 s2 g2 ok
  go_wp2_with fail
  refine bodyPost_ret (v := .agg #[.slice A2 rs.length c2]) (by simp [results, Tryd.results5, go_sem]; rw [x5]; rfl) rfl ?_
  exact ⟨A2, c2, rs, rfl, Ok.out, O2.out, b3.out⟩
end Go.Proofs.YtnhkoinjjbfofaaDoor


/-
  Grammars joined, turned and repeated: the plain part.
-/
namespace Go.Proofs.YtnhkoinjjbfofaaDoor

theorem wdN_pos {rs : List Fac} (h : 0 < rs.length) : wdN rs = (wds rs).getD (rs.length - 1) [] := by
  unfold wdN
  rw [if_neg (by intro e; rw [e] at h; simp at h)]
def joinL (gs hs : List Fac) : List Fac :=
  if gs.length = 0 then hs else if hs.length = 0 then gs else (gs ++ raiseL gs.length hs) ++ [⟨⟨#[]⟩, (gs.length : Int) - 1, (gs.length : Int) + hs.length - 1⟩]
theorem join_wf {gs hs : List Fac} (hg : WF gs) (hh : WF hs) : WF (joinL gs hs) := by
  unfold joinL
  split
  · exact hh
  · split
    · exact hg
    · exact wf_snoc (wf_raise hg hh) ⟨by omega, by simp only [List.length_append, raiseL_len]; omega⟩ ⟨by omega, by simp only [List.length_append, raiseL_len]; omega⟩
theorem join_word {gs hs : List Fac} (hg : WF gs) (hh : WF hs) : wdN (joinL gs hs) = wdN gs ++ wdN hs := by
  unfold joinL
  split
  · rename_i h
    have : gs = [] := List.eq_nil_of_length_eq_zero h
    subst this; rfl
  · rename_i h0
    split
    · rename_i h
      have : hs = [] := List.eq_nil_of_length_eq_zero h
      subst this
      rw [show wdN [] = [] from rfl, List.append_nil]
    · rename_i h1
      have hw := wf_raise hg hh
      have hl : (gs ++ raiseL gs.length hs).length = gs.length + hs.length := by simp [raiseL_len]
      have e := wds_snoc (rs := gs ++ raiseL gs.length hs) (a := (gs.length : Int) - 1) (b := (gs.length : Int) + hs.length - 1) ⟨by omega, by rw [hl]; omega⟩ ⟨by omega, by rw [hl]; omega⟩ hw
      rw [wdN_pos (by simp only [List.length_append, List.length_singleton]; omega), List.length_append, List.length_singleton, Nat.add_sub_cancel, e, wdN_pos (by omega), wdN_pos (by omega)]
      rw [show ((gs.length : Int) - 1).toNat = gs.length - 1 by omega, show ((gs.length : Int) + hs.length - 1).toNat = gs.length + (hs.length - 1) by omega, wds_pre _ _ (by omega), wds_raise hg hh _ (by omega)]
/-- turned -/
def turnL (rs : List Fac) : List Fac := rs.map fun r => ⟨r.l, r.b, r.a⟩
theorem turn_len (rs : List Fac) : (turnL rs).length = rs.length := by simp [turnL]
theorem turn_at {rs : List Fac} {k : Nat} {r : Fac} (h : rs[k]? = some r) : (turnL rs)[k]? = some ⟨r.l, r.b, r.a⟩ := by unfold turnL; rw [List.getElem?_map, h]; rfl
theorem turn_wf {rs : List Fac} (hwf : WF rs) : WF (turnL rs) := fun k r hr => by
  unfold turnL at hr
  rw [List.getElem?_map] at hr
  obtain ⟨x, hx, rfl⟩ := Option.map_eq_some_iff.1 hr
  rcases hwf k x hx with ⟨h0, a0, a1, b0, b1⟩ | ⟨c, hc, hl, ha, hb⟩
  · exact .inl ⟨h0, b0, b1, a0, a1⟩
  · exact .inr ⟨c, hc, hl, hb, ha⟩
theorem turn_wds {rs : List Fac} (hwf : WF rs) : ∀ k, k < rs.length → (wds (turnL rs)).getD k [] = ((wds rs).getD k []).reverse := by
  intro k
  induction k using Nat.strongRecOn with
  | ind k ih =>
    intro hk
    have hr : rs[k]? = some rs[k] := List.getElem?_eq_getElem hk
    have ht := turn_at hr
    rcases hwf k _ hr with ⟨h0, a0, a1, b0, b1⟩ | ⟨c, hc, hl, ha, hb⟩
    · rw [wds_pair (turn_wf hwf) ht h0, wds_pair hwf hr h0, List.reverse_append]
      simp only
      rw [ih _ (by omega) (by omega), ih _ (by omega) (by omega)]
    · rw [wds_one ht hl, wds_one hr hl]; rfl
theorem turn_word {rs : List Fac} (hwf : WF rs) : wdN (turnL rs) = (wdN rs).reverse := by
  by_cases h : rs.length = 0
  · have : rs = [] := List.eq_nil_of_length_eq_zero h
    subst this; rfl
  · rw [wdN_pos (by rw [turn_len]; omega), wdN_pos (by omega), turn_len, turn_wds hwf _ (by omega)]
/-- one digit more of the number of times -/
def powS (root : Int) (rs : List Fac) (b : Bool) : List Fac :=
  if b then (rs ++ [⟨⟨#[]⟩, (rs.length : Int) - 1, (rs.length : Int) - 1⟩]) ++ [⟨⟨#[]⟩, (rs.length : Int), root⟩] else rs ++ [⟨⟨#[]⟩, (rs.length : Int) - 1, (rs.length : Int) - 1⟩]
def rep (u : List Nat) : Nat → List Nat
  | 0 => []
  | n + 1 => rep u n ++ u
theorem rep_add (u : List Nat) (m : Nat) : ∀ n, rep u (m + n) = rep u m ++ rep u n
  | 0 => by simp [rep]
  | n + 1 => by
    show rep u (m + n) ++ u = rep u m ++ (rep u n ++ u)
    rw [rep_add u m n, List.append_assoc]
theorem rep_len (u : List Nat) : ∀ n, (rep u n).length = n * u.length
  | 0 => by simp [rep]
  | n + 1 => by show (rep u n ++ u).length = _; rw [List.length_append, rep_len u n, Nat.succ_mul]
/-- what holds under way: n times the word -/
structure PowI (gs rs : List Fac) (n : Nat) : Prop where
  wf : WF rs
  pre : ∃ e, rs = gs ++ e
  pos : 0 < gs.length
  w : wdN rs = rep (wdN gs) n
theorem PowI.first {gs : List Fac} (hg : WF gs) (h0 : 0 < gs.length) : PowI gs gs 1 := ⟨hg, ⟨[], by simp⟩, h0, by simp [rep]⟩
theorem PowI.step {gs rs : List Fac} {n : Nat} (h : PowI gs rs n) (b : Bool) : PowI gs (powS ((gs.length : Int) - 1) rs b) (2 * n + b.toNat) := by
  obtain ⟨e, he⟩ := h.pre
  have hp := h.pos
  have hl : gs.length ≤ rs.length := by rw [he, List.length_append]; omega
  have ha : 0 ≤ (rs.length : Int) - 1 ∧ (rs.length : Int) - 1 < rs.length := ⟨by omega, by omega⟩
  have w1 := wf_snoc h.wf ha ha
  have e1 := wds_snoc (rs := rs) ha ha h.wf
  have hlast : (wds rs).getD ((rs.length : Int) - 1).toNat [] = rep (wdN gs) n := by rw [← h.w, wdN_pos (by omega), show ((rs.length : Int) - 1).toNat = rs.length - 1 by omega]
  rw [hlast, ← rep_add, show n + n = 2 * n by omega] at e1
  cases b with
  | false =>
    refine ⟨w1, ⟨e ++ [⟨⟨#[]⟩, (rs.length : Int) - 1, (rs.length : Int) - 1⟩], by show rs ++ _ = _; rw [he, List.append_assoc]⟩, hp, ?_⟩
    show wdN (rs ++ [_]) = _
    rw [wdN_pos (by simp), List.length_append, List.length_singleton, Nat.add_sub_cancel, e1]; rfl
  | true =>
    have hl2 : (rs ++ [(⟨⟨#[]⟩, (rs.length : Int) - 1, (rs.length : Int) - 1⟩ : Fac)]).length = rs.length + 1 := by simp
    have hb1 : 0 ≤ (rs.length : Int) ∧ (rs.length : Int) < (rs ++ [(⟨⟨#[]⟩, (rs.length : Int) - 1, (rs.length : Int) - 1⟩ : Fac)]).length := ⟨by omega, by rw [hl2]; omega⟩
    have hb2 : 0 ≤ (gs.length : Int) - 1 ∧ (gs.length : Int) - 1 < (rs ++ [(⟨⟨#[]⟩, (rs.length : Int) - 1, (rs.length : Int) - 1⟩ : Fac)]).length := ⟨by omega, by rw [hl2]; omega⟩
    refine ⟨wf_snoc w1 hb1 hb2, ⟨e ++ [⟨⟨#[]⟩, (rs.length : Int) - 1, (rs.length : Int) - 1⟩] ++ [⟨⟨#[]⟩, (rs.length : Int), (gs.length : Int) - 1⟩], by show (rs ++ _) ++ _ = _; rw [he]; simp only [List.append_assoc]⟩, hp, ?_⟩
    have e2 := wds_snoc (rs := rs ++ [(⟨⟨#[]⟩, (rs.length : Int) - 1, (rs.length : Int) - 1⟩ : Fac)]) hb1 hb2 w1
    show wdN ((rs ++ [_]) ++ [_]) = _
    rw [wdN_pos (by simp), List.length_append, List.length_singleton, Nat.add_sub_cancel, e2, Int.toNat_natCast, e1]
    have e3 : (wds (rs ++ [(⟨⟨#[]⟩, (rs.length : Int) - 1, (rs.length : Int) - 1⟩ : Fac)])).getD ((gs.length : Int) - 1).toNat [] = wdN gs := by
      rw [wds_pre _ _ (by omega), he, wds_pre _ _ (by omega), wdN_pos hp, show ((gs.length : Int) - 1).toNat = gs.length - 1 by omega]
    rw [e3]; rfl
end Go.Proofs.YtnhkoinjjbfofaaDoor


/-
  The letters of a grammar's word, in the reference.
-/
namespace Go.Proofs.YtnhkoinjjbfofaaDoor
open Go.RowKit

def lt8 (u : List Nat) (i : Nat) : Value := .int .u8 ((97 + u.getD i 0 : Nat) : Int)
theorem wds_get_pair {rs : List Fac} (hwf : WF rs) {k : Nat} {r : Fac} (h : rs[k]? = some r) (h0 : r.l.size = 0) : (wds rs).getD k [] = (wds rs).getD r.a.toNat [] ++ (wds rs).getD r.b.toNat [] := full_pair [] wdF wdG hwf h h0
theorem wds_get_let {rs : List Fac} {k : Nat} {r : Fac} (h : rs[k]? = some r) {c : UInt8} (hl : r.l = ⟨#[c]⟩) : (wds rs).getD k [] = [c.toNat - 97] := by
  have := full_let [] wdF wdG h (by rw [hl]; show (1 : Nat) ≠ 0; omega)
  rw [hl] at this
  exact this
end Go.Proofs.YtnhkoinjjbfofaaDoor


/-
  A grammar unpacked, in the reference.
-/
namespace Go.Proofs.YtnhkoinjjbfofaaDoor
open Go.RowKit

/-- letters as bytes -/
theorem byteE_let (u : List Nat) (i : Nat) (h : ∀ x ∈ u, x < 4) : [lt8 u i] = byteE (UInt8.ofNat (97 + u.getD i 0)) := by
  have hb : u.getD i 0 < 4 := by
    rw [List.getD_eq_getElem?_getD]
    cases e : u[i]? with
    | none => simp
    | some x => exact h x (List.mem_of_getElem? e)
  have e : (UInt8.ofNat (97 + u.getD i 0)).toNat = 97 + u.getD i 0 := by rw [UInt8.toNat_ofNat']; omega
  unfold lt8 byteE
  rw [e]
theorem txB_snoc (u : List Nat) {i : Nat} (hi : i < u.length) : txB (u.take i) ++ [UInt8.ofNat (97 + u.getD i 0)] = txB (u.take (i + 1)) := by
  rw [List.take_succ_eq_append_getElem hi]
  unfold txB
  rw [List.map_append, List.getD_eq_getElem?_getD, List.getElem?_eq_getElem hi]; rfl
theorem txB_len (u : List Nat) : (txB u).length = u.length := by simp [txB]
/-- a text's letter -/
theorem tx_at (u : List Nat) (hu : ∀ x ∈ u, x < 4) (i : Nat) (hi : i < (tx u).size) : (tx u)[i].toNat = 97 + u.getD i 0 ∧ u.getD i 0 < 4 := by
  have hl : i < u.length := by rw [← tx_size]; exact hi
  have hb : u.getD i 0 < 4 := by
    rw [List.getD_eq_getElem?_getD, List.getElem?_eq_getElem hl]
    exact hu _ (List.getElem_mem hl)
  refine ⟨?_, hb⟩
  have h1 := at_byte (tx u) i hi
  rw [tx_toList, txB, List.getElem?_map, List.getElem?_eq_getElem hl] at h1
  injection h1 with h1
  rw [← h1, List.getD_eq_getElem?_getD, List.getElem?_eq_getElem hl, UInt8.toNat_ofNat']
  rw [List.getD_eq_getElem?_getD, List.getElem?_eq_getElem hl] at hb
  simp only [Option.getD_some] at hb ⊢
  omega
section
variable (A : Option Addr) (n c : Nat) (rs : List Fac) (ls : List Int) (w : World) (hr : Rd w w.heap.size A n 3 Fac.cells rs) (hok : ∀ f ∈ rs, f.l.size ≤ maxLen) (hls : gOk rs = some ls)
include hr hok hls
end
end Go.Proofs.YtnhkoinjjbfofaaDoor


/-
  What the laws draw from bytes; whether a grammar has a word.
-/
namespace Go.Proofs.YtnhkoinjjbfofaaDoor
open Go.RowKit

/-- a number below m out of a byte -/
def atV (bs : List UInt8) (k m : Nat) : Nat := (bs.getD k 0).toNat % m
theorem atV_lt (bs : List UInt8) (k : Nat) {m : Nat} (h : 0 < m) : atV bs k m < m := Nat.mod_lt _ h
theorem a2Long_any (A : Option Addr) (n c : Nat) (D : Option Addr) (m d : Nat) (w : World) (hn : n ≤ maxLen) (hm : m ≤ maxLen) (b : Bool) (hb : (decide (3000 < n) || decide (3000 < m)) = b) :
    Calls Tryd.prog 4 #[.slice A n c, .slice D m d] w (Ret (.bool b) w) := by
  unfold maxLen at hn hm
  by_cases h1 : 3000 < n
  · have h1' : (3000 : Int) < (n : Int) := by omega
    have hbt : b = true := by rw [← hb]; simp [h1]
    subst hbt
    clear hb
    go_enter Tryd.func4, Tryd.ntmps4
    go_wp2_with fail
    go_ret
    exact ⟨rfl, Below.refl _ _⟩
  · have h1' : ¬ (3000 : Int) < (n : Int) := by omega
    have e := Lib.hid (show decide ((3000 : Int) < (m : Int)) = b by rw [← hb, decide_eq_false h1, Bool.false_or, decide_eq_decide]; omega)
    clear hb
    go_enter Tryd.func4, Tryd.ntmps4
    go_wp2_with fail
    go_ret
    exact ⟨ret_bool e.out, Below.refl _ _⟩
set_option maxHeartbeats 1000000 in
theorem a2At_any (A : Option Addr) (n c : Nat) (bs : List UInt8) (k m : Nat) (w : World) (hn : n ≤ 4096) (hr : Rd w w.heap.size A n 1 byteE bs) (hk : k ≤ 100000) (hm0 : 1 ≤ m) (hm : m ≤ 100000) :
    Calls Tryd.prog 12 #[.slice A n c, .int .i64 k, .int .i64 m] w (Ret (.int .i64 ((atV bs k m : Nat) : Int)) w) := by
  have hl := Lib.hid hr.len
  by_cases hlt : k < n
  · obtain ⟨b, o, x, rfl, hb, gx, cx⟩ := hr.byte hlt
    have hxx : (x.toNat : Int) < 256 := by have := x.toNat_lt; omega
    have hv := Lib.hid (show (x.toNat : Int) % (m : Int) = ((atV bs k m : Nat) : Int) by
      unfold atV
      rw [List.getD_eq_getElem?_getD, gx]; rfl)
    have i0 : (0 : Int) ≤ (k : Int) := by omega
    have i1 : (k : Int) < (n : Int) := by omega
    have i2 : ¬ (m : Int) < 1 := by omega
    have i3 : ¬ (n : Int) ≤ (k : Int) := by omega
    have i4 : ((m : Int) == 0) = false := by simp; omega
    have i5 : ¬ (m : Int) = 0 := by omega
    have i6 : ¬ m = 0 := by omega
    have um : Int.tmod (x.toNat : Int) (m : Int) = (x.toNat : Int) % (m : Int) := Int.tmod_eq_emod_of_nonneg (by omega)
    have hmx : 0 ≤ (x.toNat : Int) % (m : Int) ∧ (x.toNat : Int) % (m : Int) < m := ⟨Int.emod_nonneg _ (by omega), Int.emod_lt_of_pos _ (by omega)⟩
    have uw : IntKind.i64.wrap ((x.toNat : Int) % (m : Int)) = (x.toNat : Int) % (m : Int) := IntWalk.i64_in _ (by omega)
    have hbl : b < w.heap.size := hb
    clear gx hr hmx
    go_enter Tryd.func12, Tryd.ntmps12
    go_wp2_with fail
    go_ret
    refine ⟨?_, by first | exact Below.refl _ _ | (repeat first | exact Below.refl _ _ | assumption | refine Below.drew ?_ | refine Below.alloc ?_ (by first | exact Nat.le_refl _ | (simp; done) | omega | (simp; omega)) _ | refine Below.setCell ?_ (by first | exact Nat.le_refl _ | (simp; done) | omega | (simp; omega)) _)⟩
    rw [← hv.out]; rfl
  · have hv := Lib.hid (show atV bs k m = 0 by
      unfold atV
      rw [List.getD_eq_getElem?_getD, List.getElem?_eq_none (by rw [hl.out]; omega)]
      show 0 % m = 0
      exact Nat.zero_mod m)
    have i3 : (n : Int) ≤ (k : Int) := by omega
    go_enter Tryd.func12, Tryd.ntmps12
    go_wp2_with fail
    go_ret
    exact ⟨by rw [hv.out]; rfl, Below.refl _ _⟩
section
variable (A : Option Addr) (n c : Nat) (rs : List Fac) (ls : List Int) (w : World) (hr : Rd w w.heap.size A n 3 Fac.cells rs) (hok : ∀ f ∈ rs, f.l.size ≤ maxLen) (hls : gOk rs = some ls)
include hr hok hls
end
end Go.Proofs.YtnhkoinjjbfofaaDoor
