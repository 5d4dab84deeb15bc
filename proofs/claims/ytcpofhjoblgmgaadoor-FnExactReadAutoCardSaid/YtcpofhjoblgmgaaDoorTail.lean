
/-
  A region that draws its order: quiet operations ahead, in an order of ours, and a tail that waits for all of them.
-/
import Derived.Test.YtcpofhjoblgmgaaDoorBase
import Derived.StillTail
namespace Go.Proofs.YtcpofhjoblgmgaaDoor
open Go

section
variable {P : Program} {ops : Array Oper} {md : Region.Mode} {C : World → Prop}

/-- what an operation waits for -/
def depsT (md : Region.Mode) (ops : Array Oper) (j : Nat) : List Nat :=
  match ops[j]? with
  | some o => (o.after.toList.filter fun e => Region.binds md e).map (·.on)
  | none => []
def reachT (md : Region.Mode) (ops : Array Oper) : Nat → List Nat → List Nat
  | 0, s => s
  | k + 1, s => reachT md ops k (s ++ (s.flatMap (depsT md ops)).filter fun x => !s.contains x).eraseDups
/-- every operation that is not ahead waits for all that are -/
def waitB (md : Region.Mode) (ops : Array Oper) (hd : List Nat) : Bool :=
  (List.range ops.size).all fun t => hd.contains t || hd.all fun i => (reachT md ops ops.size [t]).contains i
def seqT (md : Region.Mode) (ops : Array Oper) : List Nat → Array Bool → Bool
  | [], listed => (Region.ready md ops listed).isEmpty
  | t :: tl, listed => decide (Region.ready md ops listed = [t]) && seqT md ops tl (listed.setIfInBounds t true)
def headT (md : Region.Mode) (ops : Array Oper) (tl : List Nat) : List Nat → Array Bool → Bool
  | [], listed => seqT md ops tl listed
  | i :: hd, listed => (Region.ready md ops listed).contains i && Region.free md ops listed i && headT md ops tl hd (listed.setIfInBounds i true)
def tailB (md : Region.Mode) (ops : Array Oper) (hd tl : List Nat) : Bool :=
  Region.noSelect ops && waitB md ops hd && headT md ops tl hd (Array.replicate ops.size false) && decide (hd.length + tl.length = ops.size)

structure InvT (md : Region.Mode) (ops : Array Oper) (listed : Array Bool) : Prop where
  size : listed.size = ops.size
  closed : ∀ j oj, ops[j]? = some oj → listed.getD j false = true → ∀ e ∈ oj.after, Region.binds md e = true → listed.getD e.on false = true
theorem InvT.set {i : Nat} {listed : Array Bool} (inv : InvT md ops listed) (hi : i ∈ Region.ready md ops listed) : InvT md ops (listed.setIfInBounds i true) := by
  obtain ⟨_, oi, hoi, hall⟩ := mem_ready.1 hi
  refine ⟨by simp [inv.size], fun j oj hj hl e he hb => ?_⟩
  by_cases hij : i = j
  · subst hij
    have : oj = oi := Option.some.inj (hj.symm.trans hoi)
    subst this
    exact getD_set_true (hall e he hb)
  · rw [getD_set_ne false hij] at hl
    exact getD_set_true (inv.closed j oj hj hl e he hb)
theorem reachT_in {listed : Array Bool} (inv : InvT md ops listed) {t : Nat} (hr : t ∈ Region.ready md ops listed) : ∀ (k : Nat) (s : List Nat), (∀ x ∈ s, x = t ∨ listed.getD x false = true) → ∀ x ∈ reachT md ops k s, x = t ∨ listed.getD x false = true
  | 0, s, h => h
  | k + 1, s, h => by
    refine reachT_in inv hr k _ fun x hx => ?_
    rw [List.mem_eraseDups] at hx
    rcases List.mem_append.1 hx with hx | hx
    · exact h x hx
    · have hx := (List.mem_filter.1 hx).1
      obtain ⟨y, hy, hxy⟩ := List.mem_flatMap.1 hx
      unfold depsT at hxy
      split at hxy
      · rename_i o ho
        obtain ⟨e, he, rfl⟩ := List.mem_map.1 hxy
        rw [List.mem_filter] at he
        have he1 : e ∈ o.after := by simpa using he.1
        rcases h y hy with rfl | hl
        · obtain ⟨_, ot, hot, hall⟩ := mem_ready.1 hr
          have : o = ot := Option.some.inj (ho.symm.trans hot)
          subst this
          exact .inr (hall e he1 he.2)
        · exact .inr (inv.closed y o ho hl e he1 he.2)
      · simp at hxy
theorem waitT {hd : List Nat} {listed : Array Bool} (hw : waitB md ops hd = true) (inv : InvT md ops listed) {i t : Nat} (hi : i ∈ hd) (hun : listed.getD i true = false) (ht : t ∈ Region.ready md ops listed) : t ∈ hd := by
  obtain ⟨_, ot, hot, _⟩ := mem_ready.1 ht
  have htlt : t < ops.size := (Array.getElem?_eq_some_iff.1 hot).1
  have h1 := List.all_eq_true.1 hw t (List.mem_range.2 htlt)
  simp only [Bool.or_eq_true, List.contains_iff_mem] at h1
  rcases h1 with h1 | h1
  · exact h1
  · have h2 := List.all_eq_true.1 h1 i hi
    have h3 : i ∈ reachT md ops ops.size [t] := by simpa using h2
    rcases reachT_in inv ht _ [t] (fun x hx => .inl (by simpa using hx)) i h3 with rfl | h4
    · exact hi
    · rw [getD_both hun] at h4; cases h4

/-- Whatever order is picked: the operations ahead come first. -/
def wpAnyT (P : Program) (md : Region.Mode) (ops : Array Oper) (C : World → Prop) (hd : List Nat) (L : Array Bool → Act → Prop) : Nat → Array Bool → Act → Prop
  | 0, listed, a => L listed a
  | f + 1, listed, a => Region.ready md ops listed ≠ [] ∧ ∀ i ∈ Region.ready md ops listed, i ∈ hd ∧ qOp P ops C i (wpAnyT P md ops C hd L f (listed.setIfInBounds i true)) a
theorem wpAny_of_headT {hd : List Nat} {g : Nat} {L : Array Bool → Act → Prop} {Q' : Exit → Act → World → Prop} (hL : ∀ listed a w, C w → L listed a → wpAny P md ops Q' g listed a w) :
    ∀ (f : Nat) (listed : Array Bool) (a : Act) (w : World), C w → wpAnyT P md ops C hd L f listed a → wpAny P md ops Q' (f + g) listed a w
  | 0, listed, a, w, hw, h => by rw [Nat.zero_add]; exact hL _ _ _ hw h
  | f + 1, listed, a, w, hw, h => by
    rw [show f + 1 + g = (f + g) + 1 by omega]
    exact ⟨fun h0 => absurd h0 h.1, fun i hi => wpOp_of_qOp hw (fun a' w' hw' => wpAny_of_headT hL f _ a' w' hw') (h.2 i hi).2⟩
theorem wpAnyT_first {hd : List Nat} {i : Nat} {oi : Oper} {v : Value} {L : Array Bool → Act → Prop} (hi : ops[i]? = some oi) (hsel : ∀ (j : Nat) (o : Oper) cs b, ops[j]? = some o → o.op ≠ .select cs b)
    (hw : waitB md ops hd = true) (hin : i ∈ hd) (hdone : ∀ listed a, L listed a → ∀ j ∈ Region.ready md ops listed, j ∉ hd) :
    ∀ (f : Nat) (listed : Array Bool) (a : Act), InvT md ops listed →
      (∀ j oj, ops[j]? = some oj → j ≠ i → listed.getD j true = false → (∀ e ∈ oj.after, Region.binds md e = true → e.on ≠ i) → oi.apart ops oj = true) →
      i ∈ Region.ready md ops listed → YieldsIn P ops C oi v a →
      wpAnyT P md ops C hd L f (listed.setIfInBounds i true) (a.put oi.dst v) → wpAnyT P md ops C hd L (f + 1) listed a := by
  intro f
  induction f with
  | zero =>
    intro listed a inv _ hr hy H
    have hun := (mem_ready.1 hr).1
    refine ⟨fun h => (by rw [h] at hr; cases hr), fun j hj => ?_⟩
    have hjn := waitT hw inv hin hun hj
    refine ⟨hjn, ?_⟩
    by_cases hji : j = i
    · subst hji; exact hy.qOp hi H
    · exact absurd hjn (hdone _ _ H j (ready_mono hj hji))
  | succ f ih =>
    intro listed a inv hfree hr hy H
    have hun := (mem_ready.1 hr).1
    refine ⟨fun h => (by rw [h] at hr; cases hr), fun j hj => ?_⟩
    have hjn := waitT hw inv hin hun hj
    refine ⟨hjn, ?_⟩
    by_cases hji : j = i
    · subst hji; exact hy.qOp hi H
    · have h1 := (H.2 j (ready_mono hj hji)).2
      obtain ⟨hjun, oj, hoj, hall⟩ := mem_ready.1 hj
      have hnot : ∀ e ∈ oj.after, Region.binds md e = true → e.on ≠ i := fun e he hb heq => by
        have h1 := hall e he hb
        rw [heq, getD_both hun] at h1
        cases h1
      have h2 := qOp_put hoj (hfree j oj hoj hji hjun hnot) (fun cs b => hsel i oi cs b hi) (fun cs b => hsel j oj cs b hoj) hy h1
      have hfree' : ∀ k ok, ops[k]? = some ok → k ≠ i → (listed.setIfInBounds j true).getD k true = false →
          (∀ e ∈ ok.after, Region.binds md e = true → e.on ≠ i) → oi.apart ops ok = true := fun k ok hk hki hun hno => by
        refine hfree k ok hk hki ?_ hno
        by_cases hjk : j = k
        · subst hjk; exact hjun
        · rw [getD_set_ne true hjk] at hun; exact hun
      refine qOp_mono (fun a' h3 => ih (listed.setIfInBounds j true) a' (inv.set hj) hfree' (ready_mono hr (Ne.symm hji)) h3.1 ?_) h2
      rw [Array.setIfInBounds_comm _ _ hji]
      exact h3.2
theorem seqT_ready {tl : List Nat} {listed : Array Bool} (h : seqT md ops tl listed = true) : ∀ j ∈ Region.ready md ops listed, j ∈ tl := by
  cases tl with
  | nil => intro j hj; simp only [seqT, List.isEmpty_iff] at h; rw [h] at hj; cases hj
  | cons t tl =>
    intro j hj
    simp only [seqT, Bool.and_eq_true, decide_eq_true_eq] at h
    rw [h.1] at hj
    have : j = t := by simpa using hj
    simp [this]
theorem wpAny_of_seqT {Q' : Exit → Act → World → Prop} : ∀ (tl : List Nat) (l : List Oper) (listed : Array Bool) (a : Act) (w : World), tl.map (fun i => ops[i]?) = l.map some →
    seqT md ops tl listed = true → wpList P ops Q' l a w → wpAny P md ops Q' tl.length listed a w
  | [], [], _, _, _, _, hB, h => ⟨by simpa [seqT] using hB, h⟩
  | [], _ :: _, _, _, _, hl, _, _ => by simp at hl
  | _ :: _, [], _, _, _, hl, _, _ => by simp at hl
  | t :: tl, o :: l, listed, a, w, hl, hB, h => by
    simp only [List.map_cons, List.cons.injEq] at hl
    simp only [List.length_cons, seqT, Bool.and_eq_true, decide_eq_true_eq] at hB ⊢
    refine ⟨fun h1 => (by rw [hB.1] at h1; cases h1), fun i hi => ?_⟩
    rw [hB.1] at hi
    have hik : i = t := by simpa using hi
    subst hik
    have hw : wpOp P ops Q' i (wpList P ops Q' l) a w := by unfold wpOp; simp only [hl.1]; exact h
    exact wpOp_mono (fun a' w' h' => wpAny_of_seqT tl l _ a' w' hl.2 hB.2 h') hw
theorem wpAnyT_lex {hd0 tl : List Nat} {Lq : Act → Prop} (hsel : Region.noSelect ops = true) (hw : waitB md ops hd0 = true) (hdj : ∀ j ∈ tl, j ∉ hd0) :
    ∀ (hd : List Nat) (l : List Oper) (listed : Array Bool) (a : Act), hd.map (fun i => ops[i]?) = l.map some → (∀ i ∈ hd, i ∈ hd0) → InvT md ops listed →
    headT md ops tl hd listed = true → wpQuiet P ops C Lq l a →
    wpAnyT P md ops C hd0 (fun listed' a' => seqT md ops tl listed' = true ∧ Lq a') hd.length listed a
  | [], [], listed, a, _, _, _, hB, h => ⟨by simpa [headT] using hB, h⟩
  | [], _ :: _, _, _, hl, _, _, _, _ => by simp at hl
  | _ :: _, [], _, _, hl, _, _, _, _ => by simp at hl
  | i :: hd, o :: l, listed, a, hl, hin, inv, hB, h => by
    simp only [List.map_cons, List.cons.injEq] at hl
    simp only [headT, Bool.and_eq_true] at hB
    obtain ⟨⟨hr, hf⟩, hB'⟩ := hB
    have hr' : i ∈ Region.ready md ops listed := by simpa using hr
    have hst : qOp P ops C i (wpQuiet P ops C Lq l) a := by unfold qOp; simp only [hl.1]; exact h
    obtain ⟨v, hy, hK⟩ := yieldsIn_of_qOp hl.1 hst
    exact wpAnyT_first hl.1 (Region.noSelect_spec hsel) hw (hin i (by simp)) (fun listed' a' hL j hj => hdj j (seqT_ready hL.1 j hj)) hd.length listed a inv (Region.free_spec hl.1 hf) hr' hy
      (wpAnyT_lex hsel hw hdj hd l _ _ hl.2 (fun j hj => hin j (by simp [hj])) (inv.set hr') hB' hK)
/-- the operations with these numbers -/
def pickT (l : List Oper) : List Nat → List Oper
  | [] => []
  | i :: is => (l.drop i).take 1 ++ pickT l is
theorem pickT_map {l : List Oper} : ∀ {is : List Nat}, (∀ i ∈ is, i < l.length) → is.map (fun i => l.toArray[i]?) = (pickT l is).map some
  | [], _ => rfl
  | i :: is, h => by
    have hi := h i (by simp)
    have e : (l.drop i).take 1 = [l[i]] := by rw [List.drop_eq_getElem_cons hi]; rfl
    have ih := pickT_map (l := l) (is := is) (fun j hj => h j (by simp [hj]))
    rw [List.map_cons, ih]
    show _ = ((l.drop i).take 1 ++ pickT l is).map some
    rw [e]
    simp [hi]
/-- **Quiet operations ahead in the order 'hd', then the tail in the order 'tl'.** -/
theorem wp_region_tail {id : Nat} {Q : Exit → Act → World → Prop} {a : Act} {w : World} {l : List Oper} (C : World → Prop) (hd tl : List Nat) (hm : P.follows .mixedOrders = true)
    (hB : (tailB .any l.toArray hd tl && (hd.all fun i => decide (i < l.length)) && (tl.all fun i => decide (i < l.length)) && (tl.all fun j => !hd.contains j)) = true) (hC : C { w with drawn := w.drawn + 1 })
    (h : wpQuiet P l.toArray C (fun a' => ∀ w', C w' → wpList P l.toArray Q (pickT l tl) a' w') (pickT l hd) a) : (Code.region id l.toArray true).wp P Q a w := by
  simp only [tailB, Bool.and_eq_true, decide_eq_true_eq, List.all_eq_true] at hB
  obtain ⟨⟨⟨⟨⟨⟨hsel, hw⟩, hlex⟩, hlen⟩, hh⟩, ht⟩, hdj⟩ := hB
  have inv0 : InvT .any l.toArray (Array.replicate l.toArray.size false) := ⟨by simp, fun j oj _ hl => (by rw [getD_replicate_false] at hl; cases hl)⟩
  have H := wpAnyT_lex (md := .any) hsel hw (fun j hj => by have := hdj j hj; simpa using this) hd (pickT l hd) _ a (pickT_map hh) (fun _ h => h) inv0 hlex h
  refine wp_region_any hm ?_
  have := wpAny_of_headT (Q' := Q) (g := tl.length) (fun listed a' w' hw' hL => wpAny_of_seqT tl (pickT l tl) listed a' w' (pickT_map ht) hL.1 (hL.2 w' hw')) _ _ _ _ hC H
  rw [hlen] at this
  exact this
end
end Go.Proofs.YtcpofhjoblgmgaaDoor
