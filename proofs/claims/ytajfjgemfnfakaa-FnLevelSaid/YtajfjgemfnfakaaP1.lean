/-
  Texts of this claim, merged: MapM LvM LvN TrimV LaM FoldI Lett Depth Level LbM Fld Tail Stage FldP.
-/
import Derived.Test.YtajfjgemfnfakaaP0
import Derived.Deep.RegionHeld3
import Derived.Test.YtajfjgemfnfakaaShelf
import Derived.StillTail
import Derived.OrdersHeld
import Derived.Deep.RegionHeld


/-
  The letters of a grammar replaced: the plain part.
-/
namespace Go.Proofs.Ytajfjgemfnfakaa

/-- a rule with its numbers raised -/
def rsF (by_ : Int) (r : Fac) : Fac := if r.l.size = 0 then ⟨r.l, r.a + by_, r.b + by_⟩ else r
def raiseL (by_ : Int) (rs : List Fac) : List Fac := rs.map (rsF by_)
theorem raiseL_len (b : Int) (rs : List Fac) : (raiseL b rs).length = rs.length := by simp [raiseL]
/-- is a letter a rule? -/
def usedL (rs : List Fac) (u : UInt8) : Bool := rs.any fun r => decide (r.l = ⟨#[u]⟩)
theorem usedL_mem {rs : List Fac} (hwf : WF rs) (u : UInt8) : usedL rs u = decide (ruleC u ∈ rs) := by
  rw [Bool.eq_iff_iff]
  unfold usedL
  simp only [List.any_eq_true, decide_eq_true_eq]
  constructor
  · rintro ⟨r, hr, h⟩
    obtain ⟨k, hk⟩ := List.mem_iff_getElem?.1 hr
    rcases hwf k r hk with ⟨h0, _⟩ | ⟨c, _, hl, ha, hb⟩
    · rw [h] at h0; exact absurd h0 (show ¬ (1 : Nat) = 0 by omega)
    · have : r = ruleC u := by
        cases r; simp only at h ha hb; subst h ha hb; rfl
      rw [← this]; exact hr
  · intro h; exact ⟨_, h, rfl⟩
def lb (k : Nat) : UInt8 := UInt8.ofNat (97 + k)
theorem lb_num {k : Nat} (h : k < 4) : ((lb k).toNat : Int) = 97 + k := by unfold lb; simp; omega
def mlStep (rs : List Fac) (k : Nat) (w : ByteArray) (s : List Fac × List Int) : List Fac × List Int :=
  if w.size ≠ 0 ∧ usedL rs (lb k) = true then (s.1 ++ raiseL s.1.length (plainL w.data.toList), s.2.set k (((s.1.length + (plainL w.data.toList).length : Nat) : Int) - 1)) else s
def mlGo (rs : List Fac) : Nat → List ByteArray → List Fac × List Int → List Fac × List Int
  | _, [], s => s
  | k, w :: ws, s => mlGo rs (k + 1) ws (mlStep rs k w s)
def mrStep (st : List Int) (r : Fac) (s : List Fac × List Int) : List Fac × List Int :=
  if r.l.size = 0 then
    (if s.2.getD r.a.toNat 0 < 0 then (s.1, s.2 ++ [s.2.getD r.b.toNat 0])
     else if s.2.getD r.b.toNat 0 < 0 then (s.1, s.2 ++ [s.2.getD r.a.toNat 0])
     else (s.1 ++ [⟨⟨#[]⟩, s.2.getD r.a.toNat 0, s.2.getD r.b.toNat 0⟩], s.2 ++ [(s.1.length : Int)]))
  else (s.1, s.2 ++ [st.getD (letN r.l) 0])
def mrGo (st : List Int) : List Fac → List Fac × List Int → List Fac × List Int
  | [], s => s
  | r :: rs, s => mrGo st rs (mrStep st r s)
def mapS1 (rs : List Fac) (ws : List ByteArray) : List Fac × List Int := mlGo rs 0 ws ([], [-1, -1, -1, -1])
def mapS2 (rs : List Fac) (ws : List ByteArray) : List Fac × List Int := mrGo (mapS1 rs ws).2 rs ((mapS1 rs ws).1, [])

theorem wf_nil : WF [] := fun k r h => by simp at h
theorem wf_snoc {rs : List Fac} (h : WF rs) {a b : Int} (ha : 0 ≤ a ∧ a < rs.length) (hb : 0 ≤ b ∧ b < rs.length) : WF (rs ++ [⟨⟨#[]⟩, a, b⟩]) := by
  intro k r hr
  by_cases hk : k < rs.length
  · rw [List.getElem?_append_left hk] at hr; exact h k r hr
  · rw [List.getElem?_append_right (by omega)] at hr
    have hk' : k = rs.length := by
      have := (List.getElem?_eq_some_iff.1 hr).1
      simp only [List.length_cons, List.length_nil] at this; omega
    subst hk'
    simp at hr
    subst hr
    exact .inl ⟨rfl, ha.1, ha.2, hb.1, hb.2⟩
theorem wf_take {rs : List Fac} (h : WF rs) (n : Nat) : WF (rs.take n) := fun k r hr => by
  rw [List.getElem?_take] at hr
  split at hr
  · exact h k r hr
  · cases hr
theorem wf_raise {xs ys : List Fac} (hx : WF xs) (hy : WF ys) : WF (xs ++ raiseL xs.length ys) := by
  intro k r hr
  by_cases hk : k < xs.length
  · rw [List.getElem?_append_left hk] at hr; exact hx k r hr
  · rw [List.getElem?_append_right (by omega)] at hr
    unfold raiseL at hr
    rw [List.getElem?_map] at hr
    obtain ⟨y, hy1, rfl⟩ := Option.map_eq_some_iff.1 hr
    rcases hy _ y hy1 with ⟨h0, a0, a1, b0, b1⟩ | ⟨c, hc, hl, ha, hb⟩
    · unfold rsF
      rw [if_pos h0]
      exact .inl ⟨h0, by show 0 ≤ y.a + _; omega, by show y.a + _ < _; omega, by show 0 ≤ y.b + _; omega, by show y.b + _ < _; omega⟩
    · unfold rsF
      rw [if_neg (by rw [hl]; show ¬ (1 : Nat) = 0; omega)]
      exact .inr ⟨c, hc, hl, ha, hb⟩
theorem wf_letters (ks : List UInt8) (h : ∀ c ∈ ks, letB c = true) : WF (ks.map ruleC) := fun k r hr => by
  rw [List.getElem?_map] at hr
  obtain ⟨c, hc, rfl⟩ := Option.map_eq_some_iff.1 hr
  exact .inr ⟨c, h c (List.mem_of_getElem? hc), rfl, rfl, rfl⟩
theorem ks_letB {w : List UInt8} {c : UInt8} (h : c ∈ ksP w) : letB c = true := by
  unfold ksP at h
  have := (List.mem_filter.1 h).1
  simp only [List.mem_cons, List.not_mem_nil, or_false] at this
  rcases this with rfl | rfl | rfl | rfl <;> rfl
theorem wf_pairs (w : List UInt8) : ∀ (cs : List UInt8) (b : Int) (xs : List Fac), WF xs → (∀ c ∈ cs, 0 ≤ atP w c ∧ atP w c < xs.length) → 0 ≤ b → b < xs.length → WF (xs ++ pairsP w cs b xs.length)
  | [], b, xs, h, _, _, _ => by simpa [pairsP] using h
  | c :: cs, b, xs, h, hc, hb0, hb1 => by
    have h1 := hc c (by simp)
    have h2 := wf_snoc h ⟨hb0, hb1⟩ h1
    have h3 := wf_pairs w cs (xs.length : Int) (xs ++ [⟨⟨#[]⟩, b, atP w c⟩]) h2 (fun c' hc' => by have := hc c' (by simp [hc']); simp only [List.length_append, List.length_singleton]; omega) (by omega) (by simp only [List.length_append, List.length_singleton]; omega)
    simp only [List.length_append, List.length_singleton, List.append_assoc] at h3
    exact h3
theorem wf_plain {w : List UInt8} (hl : w.all letB = true) : WF (plainL w) := by
  unfold plainL
  split
  · exact wf_nil
  · rename_i c cs
    have hm : ∀ c' ∈ c :: cs, letB c' = true := by simpa using hl
    have hlen : (lettersP (c :: cs)).length = (ksP (c :: cs)).length := by simp [lettersP]
    rw [← hlen]
    have := atP_lt (w := c :: cs) (c := c) (by simp) (hm c (by simp))
    exact wf_pairs _ cs _ _ (wf_letters _ fun _ h => ks_letB h) (fun c' hc' => by rw [hlen]; exact atP_lt (by simp [hc']) (hm c' (by simp [hc']))) this.1 (by rw [hlen]; exact this.2)
theorem plainL_pos {w : List UInt8} (h : w ≠ []) (hl : w.all letB = true) : 0 < (plainL w).length := by
  unfold plainL
  split
  · exact absurd rfl h
  · rename_i c cs
    have hc : letB c = true := by simp at hl; exact hl.1
    have : 0 < (lettersP (c :: cs)).length := by
      rw [List.length_pos_iff_exists_mem]
      exact ⟨ruleC c, List.mem_map.2 ⟨c, mem_ks (by simp) hc, rfl⟩⟩
    simp only [List.length_append]; omega
/-- what holds of the letters' rules and numbers -/
structure MlI (s : List Fac × List Int) (k : Nat) : Prop where
  wf : WF s.1
  st : s.2.length = 4
  b : ∀ i, i < 4 → -1 ≤ s.2.getD i 0 ∧ s.2.getD i 0 < s.1.length
  n : s.1.length ≤ 2004 * k
theorem okW_let {s : ByteArray} (h : okW s = true) : s.data.toList.all letB = true ∧ s.size ≤ 2000 := by
  unfold okW at h; simpa [and_comm] using h
theorem MlI.step {rs : List Fac} {s : List Fac × List Int} {k : Nat} (h : MlI s k) (hk : k < 4) {w : ByteArray} (hw : okW w = true) : MlI (mlStep rs k w s) (k + 1) := by
  unfold mlStep
  split
  · rename_i hc
    obtain ⟨hl, hsz⟩ := okW_let hw
    have h1 := plainL_len w.data.toList
    have h2 := plainL_pos (w := w.data.toList) (fun e => hc.1 (by rw [← byte_len, e]; rfl)) hl
    rw [byte_len] at h1
    refine ⟨wf_raise h.wf (wf_plain hl), by simpa using h.st, fun i hi => ?_, ?_⟩
    · have := h.b i hi
      simp only [List.length_append, raiseL_len]
      rw [List.getD_eq_getElem?_getD, List.getElem?_set]
      split
      · rw [if_pos (by rw [h.st]; omega)]; simp only [Option.getD_some]; omega
      · rw [← List.getD_eq_getElem?_getD]; omega
    · have := h.n
      simp only [List.length_append, raiseL_len]; omega
  · exact ⟨h.wf, h.st, h.b, by have := h.n; omega⟩
theorem MlI.nil : MlI ([], [-1, -1, -1, -1]) 0 := ⟨wf_nil, rfl, fun i hi => by
  rcases i with _ | _ | _ | _ | i
  · decide
  · decide
  · decide
  · decide
  · omega, by simp⟩
theorem MlI.go {rs : List Fac} : ∀ (ws : List ByteArray) (k : Nat) (s : List Fac × List Int), MlI s k → k + ws.length ≤ 4 → (∀ w ∈ ws, okW w = true) → MlI (mlGo rs k ws s) (k + ws.length)
  | [], _, _, h, _, _ => h
  | w :: ws, k, s, h, hk, hw => by
    simp only [List.length_cons] at hk ⊢
    have := MlI.go (rs := rs) ws (k + 1) (mlStep rs k w s) (h.step (by omega) (hw w (by simp))) (by omega) (fun x hx => hw x (by simp [hx]))
    rw [show k + (ws.length + 1) = k + 1 + ws.length by omega]
    exact this
/-- what holds of the rules that stand for others -/
structure MrI (s : List Fac × List Int) (n k : Nat) : Prop where
  wf : WF s.1
  st : s.2.length = k
  b : ∀ i, i < k → -1 ≤ s.2.getD i 0 ∧ s.2.getD i 0 < s.1.length
  n : s.1.length ≤ n + k
theorem getD_snoc (xs : List Int) (x : Int) (i : Nat) : (xs ++ [x]).getD i 0 = if i < xs.length then xs.getD i 0 else if i = xs.length then x else 0 := by
  rw [List.getD_eq_getElem?_getD]
  split
  · rw [List.getElem?_append_left (by omega), ← List.getD_eq_getElem?_getD]
  · split
    · rename_i h; subst h; simp
    · rw [List.getElem?_eq_none (by simp; omega)]; rfl
theorem MrI.step {st : List Int} {s : List Fac × List Int} {n k : Nat} (h : MrI s n k) (hst : ∀ i, i < 4 → -1 ≤ st.getD i 0 ∧ st.getD i 0 < s.1.length) {r : Fac}
    (hr : (r.l.size = 0 ∧ 0 ≤ r.a ∧ r.a < k ∧ 0 ≤ r.b ∧ r.b < k) ∨ (∃ c, letB c = true ∧ r.l = ⟨#[c]⟩ ∧ r.a = 0 ∧ r.b = 0)) : MrI (mrStep st r s) n (k + 1) ∧ s.1.length ≤ (mrStep st r s).1.length := by
  have snoc : ∀ (out : List Fac) (x : Int), s.1.length ≤ out.length → -1 ≤ x ∧ x < out.length → ∀ i, i < k + 1 → -1 ≤ (s.2 ++ [x]).getD i 0 ∧ (s.2 ++ [x]).getD i 0 < out.length := by
    intro out x hle hx i hi
    rw [getD_snoc, h.st]
    split
    · have := h.b i (by assumption); omega
    · split
      · exact hx
      · omega
  unfold mrStep
  rcases hr with ⟨h0, a0, a1, b0, b1⟩ | ⟨c, hc, hl, ha, hb⟩
  · rw [if_pos h0]
    have hA := h.b r.a.toNat (by omega)
    have hB := h.b r.b.toNat (by omega)
    split
    · exact ⟨⟨h.wf, by simp [h.st], snoc _ _ (Nat.le_refl _) hB, Nat.le_trans h.n (by omega)⟩, Nat.le_refl _⟩
    · split
      · exact ⟨⟨h.wf, by simp [h.st], snoc _ _ (Nat.le_refl _) hA, Nat.le_trans h.n (by omega)⟩, Nat.le_refl _⟩
      · refine ⟨⟨wf_snoc h.wf ⟨by omega, hA.2⟩ ⟨by omega, hB.2⟩, by simp [h.st], snoc _ _ (by simp) (by simp; omega), by have := h.n; simp; omega⟩, by simp⟩
  · rw [if_neg (by rw [hl]; show ¬ (1 : Nat) = 0; omega)]
    have hq : letN r.l < 4 := by rw [hl]; exact letN_lt (s := ⟨#[c]⟩) hc
    exact ⟨⟨h.wf, by simp [h.st], snoc _ _ (Nat.le_refl _) (hst _ hq), Nat.le_trans h.n (by omega)⟩, Nat.le_refl _⟩
theorem mrGo_snoc (st : List Int) : ∀ (rs : List Fac) (r : Fac) (s : List Fac × List Int), mrGo st (rs ++ [r]) s = mrStep st r (mrGo st rs s)
  | [], _, _ => rfl
  | x :: rs, r, s => mrGo_snoc st rs r (mrStep st x s)
theorem take_succ_at {α : Type} {rs : List α} {k : Nat} {r : α} (h : rs[k]? = some r) : rs.take (k + 1) = rs.take k ++ [r] := by
  rw [List.take_add_one, h]; rfl
/-- the rules up to one -/
theorem mapS2_I {rs : List Fac} (hwf : WF rs) {s : List Fac × List Int} {n : Nat} (h : MrI (s.1, []) n 0) (hst : ∀ i, i < 4 → -1 ≤ s.2.getD i 0 ∧ s.2.getD i 0 < s.1.length) :
    ∀ k, k ≤ rs.length → MrI (mrGo s.2 (rs.take k) (s.1, [])) n k ∧ s.1.length ≤ (mrGo s.2 (rs.take k) (s.1, [])).1.length
  | 0, _ => ⟨h, Nat.le_refl _⟩
  | k + 1, hk => by
    have ⟨h1, h2⟩ := mapS2_I hwf h hst k (by omega)
    have hr : rs[k]? = some rs[k] := List.getElem?_eq_getElem (by omega)
    rw [take_succ_at hr, mrGo_snoc]
    have ⟨h3, h4⟩ := h1.step (st := s.2) (fun i hi => by have := hst i hi; omega) (hwf k _ hr)
    exact ⟨h3, by omega⟩
end Go.Proofs.Ytajfjgemfnfakaa


/-
  Level grammars: the plain part: rules with their depths, and how two level rules are made one.
-/
namespace Go.Proofs.Ytajfjgemfnfakaa

structure LvS where
  rs : List Fac
  ds : List Int
def lvD (s : LvS) (k : Int) : Int := s.ds.getD k.toNat 0
def lvR (s : LvS) (k : Int) : Fac := s.rs.getD k.toNat default
def lvDep (s : LvS) (r : Fac) : Int := if r.l.size = 0 then max (lvD s r.a) (lvD s r.b) + 1 else 1
/-- a rule, added if it is not there -/
def lvRule (s : LvS) (r : Fac) : LvS × Int := if r ∈ s.rs then (s, ((s.rs.idxOf r : Nat) : Int)) else (⟨s.rs ++ [r], s.ds ++ [lvDep s r]⟩, (s.rs.length : Int))
def lvPair (s : LvS) (a b : Int) : LvS × Int := lvRule s ⟨⟨#[]⟩, a, b⟩
def lvLeft (s : LvS) (a z : Int) : LvS × Int :=
  if lvD s z ≤ lvD s a + 1 then lvPair s a z
  else if lvD s (lvR s z).a ≤ lvD s (lvR s z).b then lvPair (lvPair s a (lvR s z).a).1 (lvPair s a (lvR s z).a).2 (lvR s z).b
  else lvPair (lvPair (lvPair s a (lvR s (lvR s z).a).a).1 (lvR s (lvR s z).a).b (lvR s z).b).1 (lvPair s a (lvR s (lvR s z).a).a).2 (lvPair (lvPair s a (lvR s (lvR s z).a).a).1 (lvR s (lvR s z).a).b (lvR s z).b).2
def lvRight (s : LvS) (a z : Int) : LvS × Int :=
  if lvD s z ≤ lvD s a + 1 then lvPair s z a
  else if lvD s (lvR s z).b ≤ lvD s (lvR s z).a then lvPair (lvPair s (lvR s z).b a).1 (lvR s z).a (lvPair s (lvR s z).b a).2
  else lvPair (lvPair (lvPair s (lvR s z).a (lvR s (lvR s z).b).a).1 (lvR s (lvR s z).b).b a).1 (lvPair s (lvR s z).a (lvR s (lvR s z).b).a).2 (lvPair (lvPair s (lvR s z).a (lvR s (lvR s z).b).a).1 (lvR s (lvR s z).b).b a).2
def lvLevel : Nat → LvS → Int → Int → LvS × Int
  | 0, s, l, r => lvPair s l r
  | f + 1, s, l, r =>
    if 1 < lvD s l - lvD s r then lvLeft (lvLevel f s (lvR s l).b r).1 (lvR s l).a (lvLevel f s (lvR s l).b r).2
    else if lvD s l - lvD s r < -1 then lvRight (lvLevel f s l (lvR s r).a).1 (lvR s r).b (lvLevel f s l (lvR s r).a).2
    else lvPair s l r
/-- what holds of rules and depths -/
structure LvI (s : LvS) : Prop where
  len : s.ds.length = s.rs.length
  wf : WF s.rs
  dep : ∀ (k : Nat) (r : Fac), s.rs[k]? = some r → lvD s (k : Int) = lvDep s r
  lo : ∀ k : Nat, k < s.rs.length → 1 ≤ lvD s (k : Int) ∧ lvD s (k : Int) ≤ (k : Int) + 1
def Idx (s : LvS) (k : Int) : Prop := 0 ≤ k ∧ k < (s.rs.length : Int)
theorem LvI.get {s : LvS} (h : LvI s) {k : Int} (hk : Idx s k) : s.rs[k.toNat]? = some (lvR s k) := by
  unfold lvR
  rw [List.getD_eq_getElem?_getD, List.getElem?_eq_getElem (by have := hk.2; have := hk.1; omega)]; rfl
/-- a deep rule is a pair -/
theorem LvI.deep {s : LvS} (h : LvI s) {k : Int} (hk : Idx s k) (hd : 1 < lvD s k) : (lvR s k).l.size = 0 ∧ Idx s (lvR s k).a ∧ Idx s (lvR s k).b ∧ (lvR s k).a < k ∧ (lvR s k).b < k ∧ lvD s k = max (lvD s (lvR s k).a) (lvD s (lvR s k).b) + 1 := by
  have hg := h.get hk
  have h1 := h.dep _ _ hg
  have e : ((k.toNat : Nat) : Int) = k := by have := hk.1; omega
  rw [e] at h1
  rcases h.wf _ _ hg with ⟨h0, ha0, ha1, hb0, hb1⟩ | ⟨c, _, hl, _⟩
  · have := hk.2
    unfold lvDep at h1
    rw [if_pos h0] at h1
    exact ⟨h0, ⟨ha0, by omega⟩, ⟨hb0, by omega⟩, by omega, by omega, h1⟩
  · exfalso
    unfold lvDep at h1
    rw [if_neg (by rw [hl]; show ¬ (1 : Nat) = 0; omega)] at h1
    omega
/-- what an operation does -/
structure LvO (s : LvS) (t : LvS × Int) (g : Nat) : Prop where
  i : LvI t.1
  ext : ∃ er ed, t.1.rs = s.rs ++ er ∧ t.1.ds = s.ds ++ ed
  ix : Idx t.1 t.2
  len : t.1.rs.length ≤ s.rs.length + g
theorem LvO.grow {s : LvS} {t : LvS × Int} {g : Nat} (h : LvO s t g) : s.rs.length ≤ t.1.rs.length := by
  obtain ⟨er, ed, h1, _⟩ := h.ext
  rw [h1, List.length_append]; omega
theorem LvO.idx {s : LvS} {t : LvS × Int} {g : Nat} (h : LvO s t g) {k : Int} (hk : Idx s k) : Idx t.1 k := ⟨hk.1, by have := h.grow; have := hk.2; omega⟩
theorem LvO.r {s : LvS} {t : LvS × Int} {g : Nat} (h : LvO s t g) {k : Int} (hk : Idx s k) : lvR t.1 k = lvR s k := by
  obtain ⟨er, ed, h1, _⟩ := h.ext
  unfold lvR
  rw [h1, List.getD_eq_getElem?_getD, List.getD_eq_getElem?_getD, List.getElem?_append_left (by have := hk.1; have := hk.2; omega)]
theorem LvO.d {s : LvS} {t : LvS × Int} {g : Nat} (hs : LvI s) (h : LvO s t g) {k : Int} (hk : Idx s k) : lvD t.1 k = lvD s k := by
  obtain ⟨er, ed, _, h2⟩ := h.ext
  unfold lvD
  rw [h2, List.getD_eq_getElem?_getD, List.getD_eq_getElem?_getD, List.getElem?_append_left (by have := hk.1; have := hk.2; have := hs.len; omega)]
theorem LvO.trans {s : LvS} {t u : LvS × Int} {g1 g2 : Nat} (h1 : LvO s t g1) (h2 : LvO t.1 u g2) : LvO s u (g1 + g2) := by
  obtain ⟨e1, d1, a1, b1⟩ := h1.ext
  obtain ⟨e2, d2, a2, b2⟩ := h2.ext
  exact ⟨h2.i, ⟨e1 ++ e2, d1 ++ d2, by rw [a2, a1, List.append_assoc], by rw [b2, b1, List.append_assoc]⟩, h2.ix, by have := h1.len; have := h2.len; omega⟩
theorem LvO.more {s : LvS} {t : LvS × Int} {g g' : Nat} (h : LvO s t g) (hg : g ≤ g') : LvO s t g' := ⟨h.i, h.ext, h.ix, by have := h.len; omega⟩
/-- what may be added -/
def RuleOk (s : LvS) (r : Fac) : Prop := (r.l.size = 0 ∧ Idx s r.a ∧ Idx s r.b) ∨ (∃ c, letB c = true ∧ r.l = ⟨#[c]⟩ ∧ r.a = 0 ∧ r.b = 0)
theorem lvRule_do {s : LvS} (h : LvI s) {r : Fac} (hr : RuleOk s r) : LvO s (lvRule s r) 1 := by
  unfold lvRule
  split
  · rename_i hm
    have := List.idxOf_lt_length_of_mem hm
    exact ⟨h, ⟨[], [], by simp, by simp⟩, ⟨by simp, by simp only; omega⟩, by simp⟩
  · rename_i hm
    have hl := h.len
    have hdd : 1 ≤ lvDep s r ∧ lvDep s r ≤ (s.rs.length : Int) + 1 := by
      unfold lvDep
      rcases hr with ⟨h0, ha, hb⟩ | ⟨c, _, hl2, _⟩
      · rw [if_pos h0]
        have e1 := h.lo r.a.toNat (by have := ha.1; have := ha.2; omega)
        have e2 := h.lo r.b.toNat (by have := hb.1; have := hb.2; omega)
        rw [show ((r.a.toNat : Nat) : Int) = r.a by have := ha.1; omega] at e1
        rw [show ((r.b.toNat : Nat) : Int) = r.b by have := hb.1; omega] at e2
        have := ha.2; have := hb.2
        omega
      · rw [if_neg (by rw [hl2]; show ¬ (1 : Nat) = 0; omega)]; omega
    obtain ⟨dd, hdn⟩ : ∃ dd, lvDep s r = dd := ⟨_, rfl⟩
    rw [hdn] at hdd ⊢
    have old : ∀ k : Int, Idx s k → lvD ⟨s.rs ++ [r], s.ds ++ [dd]⟩ k = lvD s k := fun k hk => by
      unfold lvD
      rw [List.getD_eq_getElem?_getD, List.getD_eq_getElem?_getD, List.getElem?_append_left (by have := hk.1; have := hk.2; omega)]
    have new : lvD ⟨s.rs ++ [r], s.ds ++ [dd]⟩ (s.rs.length : Int) = dd := by
      unfold lvD
      rw [List.getD_eq_getElem?_getD, Int.toNat_natCast, ← hl, List.getElem?_append_right (Nat.le_refl _), Nat.sub_self]; rfl
    have dold : ∀ q : Fac, (q.l.size = 0 → Idx s q.a ∧ Idx s q.b) → lvDep ⟨s.rs ++ [r], s.ds ++ [dd]⟩ q = lvDep s q := fun q hq => by
      unfold lvDep
      by_cases h0 : q.l.size = 0
      · rw [if_pos h0, if_pos h0, old _ (hq h0).1, old _ (hq h0).2]
      · rw [if_neg h0, if_neg h0]
    refine ⟨⟨by simp [hl], ?_, ?_, ?_⟩, ⟨[r], [dd], rfl, rfl⟩, ⟨by simp, by simp only [List.length_append, List.length_singleton]; omega⟩, by simp⟩
    · intro k q hq
      by_cases hk : k < s.rs.length
      · rw [List.getElem?_append_left hk] at hq; exact h.wf k q hq
      · have hk2 : k = s.rs.length := by have := (List.getElem?_eq_some_iff.1 hq).1; simp at this; omega
        subst hk2
        simp at hq; subst hq
        rcases hr with ⟨h0, ha, hb⟩ | hc
        · exact .inl ⟨h0, ha.1, ha.2, hb.1, hb.2⟩
        · exact .inr hc
    · intro k q hq
      by_cases hk : k < s.rs.length
      · rw [List.getElem?_append_left hk] at hq
        rw [old k ⟨by omega, by omega⟩, h.dep k q hq, dold]
        intro h0
        rcases h.wf k q hq with ⟨_, ha0, ha1, hb0, hb1⟩ | ⟨c, _, hl2, _⟩
        · exact ⟨⟨ha0, by omega⟩, ⟨hb0, by omega⟩⟩
        · rw [hl2] at h0; exact absurd h0 (show ¬ (1 : Nat) = 0 by omega)
      · have hk2 : k = s.rs.length := by have := (List.getElem?_eq_some_iff.1 hq).1; simp at this; omega
        subst hk2
        simp at hq; subst hq
        rw [new, dold, hdn]
        intro h0
        rcases hr with ⟨_, ha, hb⟩ | ⟨c, _, hl2, _⟩
        · exact ⟨ha, hb⟩
        · rw [hl2] at h0; exact absurd h0 (show ¬ (1 : Nat) = 0 by omega)
    · intro k hk
      by_cases hk' : k < s.rs.length
      · rw [old k ⟨by omega, by omega⟩]; exact h.lo k hk'
      · have hk2 : k = s.rs.length := by simp at hk; omega
        subst hk2
        rw [new]; exact hdd
theorem lvPair_do {s : LvS} (h : LvI s) {a b : Int} (ha : Idx s a) (hb : Idx s b) : LvO s (lvPair s a b) 1 := lvRule_do h (.inl ⟨rfl, ha, hb⟩)
theorem lvLeft_do {s : LvS} (h : LvI s) {a z : Int} (ha : Idx s a) (hz : Idx s z) : LvO s (lvLeft s a z) 3 := by
  have da := h.lo a.toNat (by have := ha.1; have := ha.2; omega)
  rw [show ((a.toNat : Nat) : Int) = a by have := ha.1; omega] at da
  unfold lvLeft
  split
  · exact (lvPair_do h ha hz).more (by omega)
  · rename_i h1
    obtain ⟨_, hc, hd, _, _, _⟩ := h.deep hz (by omega)
    have dd := h.lo (lvR s z).b.toNat (by have := hd.1; have := hd.2; omega)
    rw [show (((lvR s z).b.toNat : Nat) : Int) = (lvR s z).b by have := hd.1; omega] at dd
    split
    · have o1 := lvPair_do h ha hc
      exact (o1.trans (lvPair_do o1.i o1.ix (o1.idx hd))).more (by omega)
    · rename_i h2
      obtain ⟨_, he, hf, _, _, _⟩ := h.deep hc (by omega)
      have o1 := lvPair_do h ha he
      have o2 := lvPair_do o1.i (o1.idx hf) (o1.idx hd)
      exact ((o1.trans o2).trans (lvPair_do o2.i (o2.idx o1.ix) o2.ix)).more (by omega)
theorem lvRight_do {s : LvS} (h : LvI s) {a z : Int} (ha : Idx s a) (hz : Idx s z) : LvO s (lvRight s a z) 3 := by
  have da := h.lo a.toNat (by have := ha.1; have := ha.2; omega)
  rw [show ((a.toNat : Nat) : Int) = a by have := ha.1; omega] at da
  unfold lvRight
  split
  · exact (lvPair_do h hz ha).more (by omega)
  · rename_i h1
    obtain ⟨_, hd, hc, _, _, _⟩ := h.deep hz (by omega)
    have dd := h.lo (lvR s z).a.toNat (by have := hd.1; have := hd.2; omega)
    rw [show (((lvR s z).a.toNat : Nat) : Int) = (lvR s z).a by have := hd.1; omega] at dd
    split
    · have o1 := lvPair_do h hc ha
      exact (o1.trans (lvPair_do o1.i (o1.idx hd) o1.ix)).more (by omega)
    · rename_i h2
      obtain ⟨_, hf, he, _, _, _⟩ := h.deep hc (by omega)
      have o1 := lvPair_do h hd hf
      have o2 := lvPair_do o1.i (o1.idx he) (o1.idx ha)
      exact ((o1.trans o2).trans (lvPair_do o2.i (o2.idx o1.ix) o2.ix)).more (by omega)
theorem lvLevel_do : ∀ (f : Nat) {s : LvS} (_ : LvI s) {l r : Int} (_ : Idx s l) (_ : Idx s r), l + r ≤ f → LvO s (lvLevel f s l r) (3 * f + 1)
  | 0, s, h, l, r, hl, hr, hf => (lvPair_do h hl hr).more (by omega)
  | f + 1, s, h, l, r, hl, hr, hf => by
    have d1 := h.lo l.toNat (by have := hl.1; have := hl.2; omega)
    have d2 := h.lo r.toNat (by have := hr.1; have := hr.2; omega)
    rw [show ((l.toNat : Nat) : Int) = l by have := hl.1; omega] at d1
    rw [show ((r.toNat : Nat) : Int) = r by have := hr.1; omega] at d2
    unfold lvLevel
    split
    · obtain ⟨_, ha, hb, ha2, hb2, _⟩ := h.deep hl (by omega)
      have o1 := lvLevel_do f h hb hr (by omega)
      exact (o1.trans (lvLeft_do o1.i (o1.idx ha) o1.ix)).more (by omega)
    · split
      · obtain ⟨_, ha, hb, ha2, hb2, _⟩ := h.deep hr (by omega)
        have o1 := lvLevel_do f h hl ha (by omega)
        exact (o1.trans (lvRight_do o1.i (o1.idx hb) o1.ix)).more (by omega)
      · exact (lvPair_do h hl hr).more (by omega)
end Go.Proofs.Ytajfjgemfnfakaa


/-
  Level grammars: the plain part: all rules of a grammar.
-/
namespace Go.Proofs.Ytajfjgemfnfakaa

/-- one rule more -/
def lvOne (st : LvS × List Int) (r : Fac) : LvS × List Int :=
  if r.l.size = 0 then ((lvLevel 800 st.1 (st.2.getD r.a.toNat 0) (st.2.getD r.b.toNat 0)).1, st.2 ++ [(lvLevel 800 st.1 (st.2.getD r.a.toNat 0) (st.2.getD r.b.toNat 0)).2])
  else ((lvRule st.1 r).1, st.2 ++ [(lvRule st.1 r).2])
def lvGo : List Fac → LvS × List Int → Option (LvS × List Int)
  | [], st => some st
  | r :: rs, st => if 400 < (lvOne st r).1.rs.length then none else lvGo rs (lvOne st r)
def lv0 : LvS × List Int := (⟨[], []⟩, [])
def lvAll (rs : List Fac) : Option (LvS × List Int) := lvGo rs lv0
def lvT (rs : List Fac) : List Fac := match lvAll rs with
  | none => []
  | some st => if st.2 = [] then [] else trimL (st.1.rs.take (lastI st.2 + 1).toNat)
def lvE (rs : List Fac) : Int := if (lvAll rs).isSome then 0 else 3
def levF (rs : List Fac) : List Fac := if (gOk rs).isSome then lvT rs else []
def levC (rs : List Fac) : Int := if (gOk rs).isSome then lvE rs else 1
/-- what holds after some rules -/
structure LvJ (rs : List Fac) (k : Nat) (st : LvS × List Int) : Prop where
  i : LvI st.1
  pl : st.2.length = k
  ix : ∀ (j : Nat) (p : Int), st.2[j]? = some p → Idx st.1 p
  len : st.1.rs.length ≤ 400
  go : lvGo (rs.drop k) st = lvAll rs
theorem LvJ.first (rs : List Fac) : LvJ rs 0 lv0 := by
  refine ⟨⟨rfl, fun k r h => by simp [lv0] at h, fun k r h => by simp [lv0] at h, fun k h => by simp [lv0] at h⟩, rfl, fun j p h => by simp [lv0] at h, by simp [lv0], rfl⟩
theorem LvJ.at_ {rs : List Fac} {k : Nat} {st : LvS × List Int} (h : LvJ rs k st) {j : Int} (h0 : 0 ≤ j) (h1 : j < k) : Idx st.1 (st.2.getD j.toNat 0) := by
  have hj : j.toNat < st.2.length := by rw [h.pl]; omega
  rw [List.getD_eq_getElem?_getD, List.getElem?_eq_getElem hj]
  exact h.ix j.toNat _ (List.getElem?_eq_getElem hj)
/-- a rule more: what is made, whether it fits -/
theorem LvJ.one {rs : List Fac} {k : Nat} {st : LvS × List Int} {r : Fac} (h : LvJ rs k st) (hr : rs[k]? = some r) (hl : (lvOne st r).1.rs.length ≤ 400) {t : LvS × Int} {g : Nat} (ht : lvOne st r = (t.1, st.2 ++ [t.2])) (ho : LvO st.1 t g) : LvJ rs (k + 1) (lvOne st r) := by
  have hgo := h.go
  have hd : rs.drop k = r :: rs.drop (k + 1) := by
    have hk := (List.getElem?_eq_some_iff.1 hr).1
    rw [List.drop_eq_getElem_cons hk, (List.getElem?_eq_some_iff.1 hr).2]
  rw [hd] at hgo
  unfold lvGo at hgo
  rw [if_neg (by omega)] at hgo
  refine ⟨by rw [ht]; exact ho.i, by rw [ht]; simp [h.pl], fun j p hp => ?_, hl, hgo⟩
  rw [ht] at hp ⊢
  simp only at hp ⊢
  by_cases hj : j < st.2.length
  · rw [List.getElem?_append_left hj] at hp; exact ho.idx (h.ix j p hp)
  · rw [List.getElem?_append_right (by omega)] at hp
    have : j - st.2.length = 0 := by have := (List.getElem?_eq_some_iff.1 hp).1; simp at this; omega
    rw [this] at hp; simp at hp; subst hp
    exact ho.ix
/-- too many -/
theorem LvJ.full {rs : List Fac} {k : Nat} {st : LvS × List Int} {r : Fac} (h : LvJ rs k st) (hr : rs[k]? = some r) (hl : 400 < (lvOne st r).1.rs.length) : lvAll rs = none := by
  have hgo := h.go
  have hd : rs.drop k = r :: rs.drop (k + 1) := by
    have hk := (List.getElem?_eq_some_iff.1 hr).1
    rw [List.drop_eq_getElem_cons hk, (List.getElem?_eq_some_iff.1 hr).2]
  rw [hd] at hgo
  unfold lvGo at hgo
  rw [if_pos hl] at hgo
  exact hgo.symm
theorem LvJ.all {rs : List Fac} {k : Nat} {st : LvS × List Int} (h : LvJ rs k st) (hk : rs.length ≤ k) : lvAll rs = some st := by
  have := h.go
  rw [List.drop_of_length_le hk] at this
  exact this.symm
/-- the pair of two rules that are there -/
theorem LvJ.pair {rs : List Fac} {k : Nat} {st : LvS × List Int} (h : LvJ rs k st) {a b : Int} (a0 : 0 ≤ a) (a1 : a < k) (b0 : 0 ≤ b) (b1 : b < k) : LvO st.1 (lvLevel 800 st.1 (st.2.getD a.toNat 0) (st.2.getD b.toNat 0)) 2401 := by
  have ia := h.at_ a0 a1
  have ib := h.at_ b0 b1
  exact lvLevel_do 800 h.i ia ib (by have := ia.2; have := ib.2; have := h.len; omega)
theorem lvGo_len : ∀ (rs : List Fac) (st st' : LvS × List Int), st.1.rs.length ≤ 400 → lvGo rs st = some st' → st'.1.rs.length ≤ 400
  | [], st, st', h, e => by injection e with e; subst e; exact h
  | r :: rs, st, st', h, e => by
    unfold lvGo at e
    split at e
    · cases e
    · exact lvGo_len rs _ st' (by omega) e
theorem lvAll_len {rs : List Fac} {st : LvS × List Int} (h : lvAll rs = some st) : st.1.rs.length ≤ 400 := lvGo_len rs lv0 st (by simp [lv0]) h
end Go.Proofs.Ytajfjgemfnfakaa


/-
  A grammar trimmed: it is valid where the grammar was, and its word is the grammar's.
-/
namespace Go.Proofs.Ytajfjgemfnfakaa

section
variable {α : Type} (d : α) (F : Nat → α) (G : α → α → Fac → α)
theorem full_snoc (xs : List Fac) (y : Fac) : full d F G (xs ++ [y]) = full d F G xs ++ [fStep d F G (full d F G xs) y] := foldG_snoc d F G xs y []
theorem full_old (xs : List Fac) (y : Fac) {p : Nat} (h : p < xs.length) : (full d F G (xs ++ [y])).getD p d = (full d F G xs).getD p d := by
  rw [full_snoc, List.getD_eq_getElem?_getD, List.getElem?_append_left (by rw [full_len]; exact h), ← List.getD_eq_getElem?_getD]
theorem full_new (xs : List Fac) (y : Fac) : (full d F G (xs ++ [y])).getD xs.length d = fStep d F G (full d F G xs) y := by
  rw [full_snoc, List.getD_eq_getElem?_getD, List.getElem?_append_right (by rw [full_len]; exact Nat.le_refl _), full_len, Nat.sub_self]; rfl
/-- equal rules have equal values -/
theorem full_same {rs : List Fac} (hwf : WF rs) {i j : Nat} {y : Fac} (hi : rs[i]? = some y) (hj : rs[j]? = some y) : (full d F G rs).getD i d = (full d F G rs).getD j d := by
  by_cases h0 : y.l.size = 0
  · rw [full_pair d F G hwf hi h0, full_pair d F G hwf hj h0]
  · rw [full_let d F G hi h0, full_let d F G hj h0]
end

/-- what the first round leaves -/
structure TkI (rs kept : List Fac) (same : List Int) (k : Nat) : Prop where
  lk : kept.length = k
  ls : same.length = k
  r : ∀ (i : Nat) (r : Fac), i < k → rs[i]? = some r → kept[i]? = some (trR same r)
  s : ∀ i, i < k → ∃ s : Nat, same.getD i 0 = (s : Int) ∧ s ≤ i ∧ kept[s]? = kept[i]?
theorem trR_more {same : List Int} (x : Int) {r : Fac} {i : Nat} (hr : (r.l.size = 0 ∧ 0 ≤ r.a ∧ r.a < (i : Int) ∧ 0 ≤ r.b ∧ r.b < (i : Int)) ∨ (∃ c, letB c = true ∧ r.l = ⟨#[c]⟩ ∧ r.a = 0 ∧ r.b = 0)) (hi : i ≤ same.length) : trR (same ++ [x]) r = trR same r := by
  unfold trR
  rcases hr with ⟨h0, a0, a1, b0, b1⟩ | ⟨c, _, hl, _⟩
  · rw [if_pos h0, if_pos h0, getD_snoc, if_pos (by omega), getD_snoc, if_pos (by omega)]
  · rw [if_neg (by rw [hl]; show ¬ (1 : Nat) = 0; omega), if_neg (by rw [hl]; show ¬ (1 : Nat) = 0; omega)]
theorem TkI.step {rs kept : List Fac} {same : List Int} {k : Nat} (h : TkI rs kept same k) (hwf : WF rs) {r : Fac} (hr : rs[k]? = some r) : TkI rs (kept ++ [trR same r]) (same ++ [((kept.idxOf (trR same r) : Nat) : Int)]) (k + 1) := by
  have hlk := h.lk
  have hls := h.ls
  refine ⟨by simp [hlk], by simp [hls], fun i x hi hx => ?_, fun i hi => ?_⟩
  · by_cases e : i < k
    · rw [List.getElem?_append_left (by omega), h.r i x e hx, trR_more _ (hwf i x hx) (by omega)]
    · obtain rfl : i = k := by omega
      obtain rfl : r = x := by rw [hr] at hx; exact Option.some.inj hx
      rw [List.getElem?_append_right (by omega), hlk, Nat.sub_self, trR_more _ (hwf i r hr) (by omega)]; rfl
  · by_cases e : i < k
    · obtain ⟨s, h1, h2, h3⟩ := h.s i e
      refine ⟨s, ?_, h2, ?_⟩
      · rw [getD_snoc, if_pos (by omega)]; exact h1
      · rw [List.getElem?_append_left (by omega), List.getElem?_append_left (by omega)]; exact h3
    · obtain rfl : i = k := by omega
      have hle := List.idxOf_le_length (a := trR same r) (l := kept)
      refine ⟨kept.idxOf (trR same r), ?_, by omega, ?_⟩
      · rw [getD_snoc, if_neg (by omega), if_pos (by omega)]
      · by_cases e2 : kept.idxOf (trR same r) < kept.length
        · rw [List.getElem?_append_left e2, List.getElem?_append_right (by omega), hlk, Nat.sub_self, List.getElem?_eq_getElem e2, List.getElem_idxOf]; rfl
        · rw [show kept.idxOf (trR same r) = i by omega]
theorem trK_tk {rs : List Fac} (hwf : WF rs) : ∀ (n k : Nat) (kept : List Fac) (same : List Int), TkI rs kept same k → k + n = rs.length → TkI rs (trK (rs.drop k) kept same).1 (trK (rs.drop k) kept same).2 rs.length
  | 0, k, kept, same, h, hk => by
    rw [List.drop_of_length_le (by omega)]
    have : k = rs.length := by omega
    rw [← this]; exact h
  | n + 1, k, kept, same, h, hk => by
    have hr : rs[k]? = some (rs[k]'(by omega)) := List.getElem?_eq_getElem _
    rw [drop_cons hr]
    exact trK_tk hwf n (k + 1) _ _ (h.step hwf hr) (by omega)
theorem tk_all {rs : List Fac} (hwf : WF rs) : TkI rs (trK rs [] []).1 (trK rs [] []).2 rs.length ∧ WF (trK rs [] []).1 := by
  refine ⟨trK_tk hwf rs.length 0 [] [] ⟨rfl, rfl, fun i r h => absurd h (by omega), fun i h => absurd h (by omega)⟩ (by omega), ?_⟩
  exact (trK_I hwf 0 [] [] TrI.nil rfl (by omega)).1.k
section
variable {α : Type} (d : α) (F : Nat → α) (G : α → α → Fac → α) (hG : ∀ a b r r', G a b r = G a b r')
include hG
/-- the rules told by the first equal ones have the same values -/
theorem kept_val {rs kept : List Fac} {same : List Int} (hwf : WF rs) (h : TkI rs kept same rs.length) (hwk : WF kept) : ∀ i, i < rs.length → (full d F G kept).getD i d = (full d F G rs).getD i d := by
  intro i
  induction i using Nat.strongRecOn with
  | ind i ih =>
    intro hi
    have hr : rs[i]? = some (rs[i]'hi) := List.getElem?_eq_getElem _
    have hk := h.r i _ hi hr
    have val : ∀ j, j < i → (full d F G kept).getD (same.getD j 0).toNat d = (full d F G rs).getD j d := fun j hj => by
      obtain ⟨s, h1, h2, h3⟩ := h.s j (by omega)
      rw [h1, Int.toNat_natCast, ← ih j hj (by omega)]
      have hj' : kept[j]? = some (kept[j]'(by rw [h.lk]; omega)) := List.getElem?_eq_getElem _
      exact full_same d F G hwk (h3.trans hj') hj'
    rcases hwf i _ hr with ⟨h0, a0, a1, b0, b1⟩ | ⟨c, hc, hl, _⟩
    · unfold trR at hk
      rw [if_pos h0] at hk
      rw [full_pair d F G hwk hk rfl, full_pair d F G hwf hr h0]
      show G ((full d F G kept).getD (same.getD _ 0).toNat d) ((full d F G kept).getD (same.getD _ 0).toNat d) _ = _
      rw [val _ (by omega), val _ (by omega)]
      exact hG _ _ _ _
    · have h0 : (rs[i]'hi).l.size ≠ 0 := by rw [hl]; show (1 : Nat) ≠ 0; omega
      unfold trR at hk
      rw [if_neg h0] at hk
      rw [full_let d F G hk h0, full_let d F G hr h0]
end

/-- which rules are used -/
theorem useStep_len (kept : List Fac) (i : Nat) (u : List Bool) : (useStep kept i u).length = u.length := by unfold useStep; split <;> simp
theorem set_getD {u : List Bool} {i j : Nat} (hi : i < u.length) : (u.set i true).getD j false = if i = j then true else u.getD j false := by
  rw [List.getD_eq_getElem?_getD, List.getElem?_set]
  split
  · rename_i h; subst h; simp [hi]
  · rw [← List.getD_eq_getElem?_getD]
theorem useT_I {kept : List Fac} (hwk : WF kept) : ∀ (k : Nat) (u : List Bool), k ≤ kept.length → u.length = kept.length →
    (useT kept k u).length = kept.length ∧ (∀ j, k ≤ j → (useT kept k u).getD j false = u.getD j false) ∧ (∀ j, u.getD j false = true → (useT kept k u).getD j false = true) ∧
    (∀ (i : Nat) (r : Fac), i < k → kept[i]? = some r → r.l.size = 0 → (useT kept k u).getD i false = true → (useT kept k u).getD r.a.toNat false = true ∧ (useT kept k u).getD r.b.toNat false = true) ∧
    (∀ s, (∀ j, s < j → u.getD j false = false) → ∀ j, s < j → (useT kept k u).getD j false = false)
  | 0, u, _, hl => ⟨hl, fun _ _ => rfl, fun _ h => h, fun i r h => absurd h (by omega), fun s h => h⟩
  | k + 1, u, hk, hl => by
    have hr : kept[k]? = some (kept[k]'(by omega)) := List.getElem?_eq_getElem _
    have hd : kept.getD k default = kept[k]'(by omega) := by rw [List.getD_eq_getElem?_getD, hr]; rfl
    obtain ⟨i1, i2, i3, i4, i5⟩ := useT_I hwk k (useStep kept k u) (by omega) (by rw [useStep_len, hl])
    have hst : ∀ j, (useStep kept k u).getD j false = if (u.getD k false = true ∧ (kept[k]'(by omega)).l.size = 0) ∧ (j = (kept[k]'(by omega)).a.toNat ∨ j = (kept[k]'(by omega)).b.toNat) then true else u.getD j false := by
      intro j
      unfold useStep
      rw [hd]
      by_cases hc : u.getD k false = true ∧ (kept[k]'(by omega)).l.size = 0
      · rw [if_pos hc]
        rcases hwk k _ hr with ⟨_, a0, a1, b0, b1⟩ | ⟨c, _, hl', _⟩
        · rw [set_getD (by simp; omega), set_getD (by omega)]
          by_cases h1 : j = (kept[k]'(by omega)).b.toNat
          · rw [if_pos h1.symm, if_pos ⟨hc, .inr h1⟩]
          · rw [if_neg (fun e => h1 e.symm)]
            by_cases h2 : j = (kept[k]'(by omega)).a.toNat
            · rw [if_pos h2.symm, if_pos ⟨hc, .inl h2⟩]
            · rw [if_neg (fun e => h2 e.symm), if_neg (fun e => by rcases e.2 with e | e; exact h2 e; exact h1 e)]
        · have := hc.2; rw [hl'] at this; exact absurd this (show ¬ (1 : Nat) = 0 by omega)
      · rw [if_neg hc, if_neg (fun e => hc e.1)]
    have hab : (u.getD k false = true ∧ (kept[k]'(by omega)).l.size = 0) → (kept[k]'(by omega)).a.toNat < k ∧ (kept[k]'(by omega)).b.toNat < k := fun hc => by
      rcases hwk k _ hr with ⟨_, a0, a1, b0, b1⟩ | ⟨c, _, hl', _⟩
      · omega
      · have := hc.2; rw [hl'] at this; exact absurd this (show ¬ (1 : Nat) = 0 by omega)
    have keep : ∀ j, k ≤ j → (useStep kept k u).getD j false = u.getD j false := fun j hj => by
      rw [hst j, if_neg]
      rintro ⟨hc, h | h⟩
      · have := (hab hc).1; omega
      · have := (hab hc).2; omega
    refine ⟨i1, fun j hj => (i2 j (by omega)).trans (keep j (by omega)), fun j hj => i3 j (by rw [hst j]; split; rfl; exact hj), fun i r hi hir h0 hu => ?_, fun s hs j hj => ?_⟩
    · by_cases e : i < k
      · exact i4 i r e hir h0 hu
      · obtain rfl : i = k := by omega
        have hxr : kept[i]'(by omega) = r := by rw [hr] at hir; exact Option.some.inj hir
        rw [← hxr] at h0 ⊢
        have h1 : u.getD i false = true := by
          have := hu
          show _
          rw [show useT kept (i + 1) u = useT kept i (useStep kept i u) from rfl, i2 i (Nat.le_refl _), keep i (Nat.le_refl _)] at this
          exact this
        exact ⟨i3 _ (by rw [hst _, if_pos ⟨⟨h1, h0⟩, .inl rfl⟩]), i3 _ (by rw [hst _, if_pos ⟨⟨h1, h0⟩, .inr rfl⟩])⟩
    · refine i5 s (fun j' hj' => ?_) j hj
      rw [hst j']
      split
      · rename_i hc
        exfalso
        have h1 := hab hc.1
        have h2 : ¬ s < k := fun h => by have := hs k h; rw [hc.1.1] at this; cases this
        rcases hc.2 with h | h <;> omega
      · exact hs j' hj'

section
variable {α : Type} (d : α) (F : Nat → α) (G : α → α → Fac → α) (hG : ∀ a b r r', G a b r = G a b r')
/-- the rules that are left, under way -/
structure OutI (kept : List Fac) (used : List Bool) (i : Nat) (out : List Fac) (at_ : List Int) : Prop where
  wf : WF out
  la : at_.length = kept.length
  v : ∀ j, j < i → used.getD j false = true → ∃ p : Nat, at_.getD j 0 = (p : Int) ∧ p < out.length ∧ (full d F G out).getD p d = (full d F G kept).getD j d
  p : ∀ p, p < out.length → ∃ j, j < kept.length ∧ (full d F G out).getD p d = (full d F G kept).getD j d
  z : ∀ s, s < i → used.getD s false = true → (∀ j, s < j → used.getD j false = false) → 0 < out.length ∧ at_.getD s 0 = (out.length : Int) - 1
include hG
theorem outT_I {kept : List Fac} {used : List Bool} (hwk : WF kept) (hu : ∀ (i : Nat) (r : Fac), kept[i]? = some r → r.l.size = 0 → used.getD i false = true → used.getD r.a.toNat false = true ∧ used.getD r.b.toNat false = true) :
    ∀ (n i : Nat) (out : List Fac) (at_ : List Int), i + n = kept.length → OutI d F G kept used i out at_ → ∃ at2, OutI d F G kept used kept.length (outT used i (kept.drop i) out at_) at2
  | 0, i, out, at_, hi, h => by
    rw [List.drop_of_length_le (by omega)]
    have : i = kept.length := by omega
    subst this
    exact ⟨at_, h⟩
  | n + 1, i, out, at_, hi, h => by
    have hr : kept[i]? = some (kept[i]'(by omega)) := List.getElem?_eq_getElem _
    rw [drop_cons hr, outT]
    by_cases hui : used.getD i false = true
    · rw [if_pos hui]
      refine outT_I hwk hu n (i + 1) _ _ (by omega) ?_
      have hval : WF (out ++ [trR at_ (kept[i]'(by omega))]) ∧ fStep d F G (full d F G out) (trR at_ (kept[i]'(by omega))) = (full d F G kept).getD i d := by
        rcases hwk i _ hr with ⟨h0, a0, a1, b0, b1⟩ | ⟨c, hc, hl, ha, hb⟩
        · obtain ⟨ua, ub⟩ := hu i _ hr h0 hui
          obtain ⟨p, p1, p2, p3⟩ := h.v _ (by omega) ua
          obtain ⟨q, q1, q2, q3⟩ := h.v _ (by omega) ub
          have e : trR at_ (kept[i]'(by omega)) = ⟨⟨#[]⟩, (p : Int), (q : Int)⟩ := by unfold trR; rw [if_pos h0, p1, q1]
          rw [e]
          refine ⟨wf_snoc h.wf ⟨by omega, by omega⟩ ⟨by omega, by omega⟩, ?_⟩
          rw [full_pair d F G hwk hr h0, ← p3, ← q3]
          show (if (0 : Nat) = 0 then G ((full d F G out).getD (p : Int).toNat d) ((full d F G out).getD (q : Int).toNat d) _ else _) = _
          rw [if_pos rfl, Int.toNat_natCast, Int.toNat_natCast]
          exact hG _ _ _ _
        · have h0 : (kept[i]'(by omega)).l.size ≠ 0 := by rw [hl]; show (1 : Nat) ≠ 0; omega
          have e : trR at_ (kept[i]'(by omega)) = kept[i]'(by omega) := by unfold trR; rw [if_neg h0]
          rw [e, full_let d F G hr h0]
          refine ⟨fun k r hk => ?_, by unfold fStep; rw [if_neg h0]⟩
          by_cases hlt : k < out.length
          · rw [List.getElem?_append_left hlt] at hk; exact h.wf k r hk
          · rw [List.getElem?_append_right (by omega)] at hk
            have : r = kept[i]'(by omega) := by
              have h2 := (List.getElem?_eq_some_iff.1 hk).1
              simp only [List.length_cons, List.length_nil] at h2
              rw [show k - out.length = 0 by omega] at hk
              exact (Option.some.inj hk).symm
            subst this
            exact .inr ⟨c, hc, hl, ha, hb⟩
      refine ⟨hval.1, by simp [h.la], fun j hj hj2 => ?_, fun p hp => ?_, fun s hs hs2 hs3 => ?_⟩
      · by_cases e : j = i
        · subst e
          refine ⟨out.length, ?_, by simp, ?_⟩
          · rw [List.getD_eq_getElem?_getD, List.getElem?_set_self (by rw [h.la]; omega)]; rfl
          · rw [full_new, hval.2]
        · obtain ⟨p, p1, p2, p3⟩ := h.v j (by omega) hj2
          refine ⟨p, ?_, by simp; omega, ?_⟩
          · rw [List.getD_eq_getElem?_getD, List.getElem?_set_ne (fun e' => e e'.symm), ← List.getD_eq_getElem?_getD]; exact p1
          · rw [full_old d F G _ _ p2]; exact p3
      · simp only [List.length_append, List.length_singleton] at hp
        by_cases e : p < out.length
        · obtain ⟨j, j1, j2⟩ := h.p p e
          exact ⟨j, j1, by rw [full_old d F G _ _ e]; exact j2⟩
        · obtain rfl : p = out.length := by omega
          exact ⟨i, by omega, by rw [full_new, hval.2]⟩
      · by_cases e : s = i
        · subst e
          refine ⟨by simp, ?_⟩
          rw [List.getD_eq_getElem?_getD, List.getElem?_set_self (by rw [h.la]; omega)]
          simp
        · exfalso
          have := hs3 i (by omega)
          rw [hui] at this; cases this
    · rw [if_neg hui]
      refine outT_I hwk hu n (i + 1) _ _ (by omega) ⟨h.wf, h.la, fun j hj hj2 => ?_, h.p, fun s hs hs2 hs3 => ?_⟩
      · by_cases e : j = i
        · subst e; exact absurd hj2 hui
        · exact h.v j (by omega) hj2
      · by_cases e : s = i
        · subst e; exact absurd hs2 hui
        · exact h.z s (by omega) hs2 hs3
/-- the last value, and where each value comes from -/
theorem trim_val {rs : List Fac} (hwf : WF rs) (h0 : 0 < rs.length) : WF (trimL rs) ∧ 0 < (trimL rs).length ∧ (full d F G (trimL rs)).getD ((trimL rs).length - 1) d = (full d F G rs).getD (rs.length - 1) d ∧
    ∀ p, p < (trimL rs).length → ∃ j, j < rs.length ∧ (full d F G (trimL rs)).getD p d = (full d F G rs).getD j d := by
  obtain ⟨hT, hwk⟩ := tk_all hwf
  have hkv := kept_val d F G hG hwf hT hwk
  have htr : trimL rs = outT (useT (trK rs [] []).1 rs.length (use0 rs.length (trK rs [] []).2)) 0 (trK rs [] []).1 [] (List.replicate rs.length 0) := by unfold trimL; rw [if_neg (by omega)]
  rw [htr]
  generalize (trK rs [] []).1 = kept at *
  generalize (trK rs [] []).2 = same at *
  obtain ⟨s, h1, h2, h3⟩ := hT.s (rs.length - 1) (by omega)
  have hlk := hT.lk
  have hu0 : ∀ j, (use0 rs.length same).getD j false = decide (j = s) := fun j => by
    unfold use0
    rw [h1, Int.toNat_natCast, set_getD (by simp; omega)]
    by_cases e : s = j
    · rw [if_pos e]; simp [e]
    · rw [if_neg e, List.getD_eq_getElem?_getD, List.getElem?_replicate]
      have : decide (j = s) = false := by simp; exact fun h => e h.symm
      rw [this]; split <;> rfl
  obtain ⟨u1, u2, u3, u4, u5⟩ := useT_I hwk rs.length (use0 rs.length same) (by omega) (by unfold use0; simp [hlk])
  have hus : (useT kept rs.length (use0 rs.length same)).getD s false = true := u3 s (by rw [hu0]; simp)
  have hul : ∀ j, s < j → (useT kept rs.length (use0 rs.length same)).getD j false = false := u5 s (fun j hj => by rw [hu0]; simp; omega)
  obtain ⟨at2, hO⟩ := outT_I d F G hG hwk (fun i r hi h0 hu => u4 i r (by have := (List.getElem?_eq_some_iff.1 hi).1; omega) hi h0 hu) kept.length 0 [] (List.replicate rs.length 0) (by omega)
    ⟨wf_nil, by simp [hlk], fun j hj => absurd hj (by omega), fun p hp => absurd hp (by simp), fun s hs => absurd hs (by omega)⟩
  rw [List.drop_zero] at hO
  obtain ⟨z1, z2⟩ := hO.z s (by omega) hus hul
  obtain ⟨p, p1, p2, p3⟩ := hO.v s (by omega) hus
  refine ⟨hO.wf, z1, ?_, fun p hp => ?_⟩
  · have : p = (outT (useT kept rs.length (use0 rs.length same)) 0 kept [] (List.replicate rs.length 0)).length - 1 := by omega
    rw [← this, p3, hkv s (by omega), ← hkv (rs.length - 1) (by omega), ← hkv s (by omega)]
    have hj' : kept[rs.length - 1]? = some (kept[rs.length - 1]'(by omega)) := List.getElem?_eq_getElem _
    exact full_same d F G hwk (h3.trans hj') hj'
  · obtain ⟨j, j1, j2⟩ := hO.p p hp
    exact ⟨j, by omega, by rw [j2]; exact hkv j (by omega)⟩
end

/-- a grammar whose lengths are not too great is valid -/
theorem gLens_of {rs : List Fac} (hwf : WF rs) (hb : ∀ k, k < rs.length → (full 0 lenF lenG rs).getD k 0 ≤ 1000000000000000) : ∀ (n k : Nat), k + n = rs.length → (gLens (rs.drop k) (outs 0 lenF lenG rs k)).isSome = true
  | 0, k, hk => by rw [List.drop_of_length_le (by omega)]; rfl
  | n + 1, k, hk => by
    have hr : rs[k]? = some (rs[k]'(by omega)) := List.getElem?_eq_getElem _
    rw [drop_cons hr]
    have hol : (outs 0 lenF lenG rs k).length = k := outs_len 0 lenF lenG rs k (by omega)
    have hst : gStep (outs 0 lenF lenG rs k) (rs[k]'(by omega)) = some (fStep 0 lenF lenG (outs 0 lenF lenG rs k) (rs[k]'(by omega))) := by
      have hv := hb k (by omega)
      rw [full_at 0 lenF lenG hr] at hv
      unfold gStep
      unfold fStep at hv ⊢
      rcases hwf k _ hr with ⟨h0, a0, a1, b0, b1⟩ | ⟨c, hc, hl, ha, hb'⟩
      · rw [if_pos h0] at hv ⊢
        rw [if_pos h0, if_pos ⟨a0, by omega, b0, by omega, hv⟩]; rfl
      · have h0 : (rs[k]'(by omega)).l.size ≠ 0 := by rw [hl]; show (1 : Nat) ≠ 0; omega
        rw [if_neg h0, if_neg h0, if_pos ⟨by rw [hl]; exact hc, ha, hb'⟩]; rfl
    unfold gLens
    rw [hst]
    show (gLens (rs.drop (k + 1)) (outs 0 lenF lenG rs k ++ [fStep 0 lenF lenG (outs 0 lenF lenG rs k) (rs[k]'(by omega))])).isSome = true
    rw [← outs_step 0 lenF lenG hr]
    exact gLens_of hwf hb n (k + 1) (by omega)
/-- a trimmed grammar is valid, if it has not too many rules -/
theorem trim_ok {rs : List Fac} (hwf : WF rs) (hb : ∀ k, k < rs.length → (full 0 lenF lenG rs).getD k 0 ≤ 1000000000000000) (hn : (trimL rs).length ≤ 400) : (gOk (trimL rs)).isSome = true := by
  unfold gOk
  rw [if_neg (by omega)]
  by_cases h0 : rs.length = 0
  · have : trimL rs = [] := by unfold trimL; rw [if_pos h0]
    rw [this]; rfl
  · obtain ⟨h1, h2, _, h4⟩ := trim_val 0 lenF lenG (fun _ _ _ _ => rfl) hwf (by omega)
    have := gLens_of h1 (fun k hk => by obtain ⟨j, j1, j2⟩ := h4 k hk; rw [j2]; exact hb j j1) (trimL rs).length 0 (by omega)
    simpa [outs, foldG] using this
end Go.Proofs.Ytajfjgemfnfakaa


/-
  Level grammars: what levelling keeps: the value of an associative law, the balance, the depth, the lengths. Plain.
-/
namespace Go.Proofs.Ytajfjgemfnfakaa

/-- a law that does not look at the rule, and is associative -/
structure Mon {α : Type} (G : α → α → Fac → α) : Prop where
  irr : ∀ a b r r', G a b r = G a b r'
  ass : ∀ a b c r, G (G a b r) c r = G a (G b c r) r
theorem full_app {α : Type} (d : α) (F : Nat → α) (G : α → α → Fac → α) (xs : List Fac) {p : Nat} (h : p < xs.length) : ∀ ys : List Fac, (full d F G (xs ++ ys)).getD p d = (full d F G xs).getD p d := by
  intro ys
  show (foldG d F G (xs ++ ys) []).getD p d = _
  rw [foldG_app]
  have : ∀ (ys : List Fac) (out : List α), p < out.length → (foldG d F G ys out).getD p d = out.getD p d := by
    intro ys
    induction ys with
    | nil => intro out _; rfl
    | cons y ys ih =>
      intro out ho
      show (foldG d F G ys (out ++ [fStep d F G out y])).getD p d = _
      rw [ih _ (by simp; omega), List.getD_eq_getElem?_getD, List.getElem?_append_left ho, ← List.getD_eq_getElem?_getD]
  exact this ys _ (by rw [foldG_len]; simpa using h)
section
variable {α : Type} (d : α) (F : Nat → α) (G : α → α → Fac → α)
def fv (s : LvS) (k : Int) : α := (full d F G s.rs).getD k.toNat d
theorem fv_old {s : LvS} {t : LvS × Int} {g : Nat} (ho : LvO s t g) {k : Int} (hk : Idx s k) : fv d F G t.1 k = fv d F G s k := by
  obtain ⟨er, ed, h1, _⟩ := ho.ext
  unfold fv
  rw [h1]
  exact full_app d F G _ (by have := hk.1; have := hk.2; omega) er
theorem fv_of {s : LvS} (h : LvI s) {k : Int} (hk : Idx s k) (h0 : (lvR s k).l.size = 0) : fv d F G s k = G (fv d F G s (lvR s k).a) (fv d F G s (lvR s k).b) (lvR s k) := full_pair d F G h.wf (h.get hk) h0
variable (hM : Mon G)
include hM
theorem lvPair_val {s : LvS} (h : LvI s) {a b : Int} (ha : Idx s a) (hb : Idx s b) (r : Fac) : fv d F G (lvPair s a b).1 (lvPair s a b).2 = G (fv d F G s a) (fv d F G s b) r := by
  unfold lvPair lvRule
  split
  · rename_i hm
    have hl := List.idxOf_lt_length_of_mem hm
    have hr : s.rs[s.rs.idxOf (⟨⟨#[]⟩, a, b⟩ : Fac)]? = some ⟨⟨#[]⟩, a, b⟩ := by rw [List.getElem?_eq_getElem hl, List.getElem_idxOf hl]
    have := full_pair d F G h.wf hr rfl
    show (full d F G s.rs).getD ((s.rs.idxOf (⟨⟨#[]⟩, a, b⟩ : Fac) : Nat) : Int).toNat d = _
    rw [Int.toNat_natCast, this]
    exact hM.irr _ _ _ _
  · show (full d F G (s.rs ++ [⟨⟨#[]⟩, a, b⟩])).getD ((s.rs.length : Nat) : Int).toNat d = _
    rw [Int.toNat_natCast, full_new]
    exact hM.irr _ _ _ _
theorem lvLeft_val {s : LvS} (h : LvI s) {a z : Int} (ha : Idx s a) (hz : Idx s z) (r : Fac) : fv d F G (lvLeft s a z).1 (lvLeft s a z).2 = G (fv d F G s a) (fv d F G s z) r := by
  have da := h.lo a.toNat (by have := ha.1; have := ha.2; omega)
  rw [show ((a.toNat : Nat) : Int) = a by have := ha.1; omega] at da
  unfold lvLeft
  split
  · exact lvPair_val d F G hM h ha hz r
  · rename_i h1
    obtain ⟨hz0, hc, hd, _, _, _⟩ := h.deep hz (by omega)
    have ez := fv_of d F G h hz hz0
    have dd := h.lo (lvR s z).b.toNat (by have := hd.1; have := hd.2; omega)
    rw [show (((lvR s z).b.toNat : Nat) : Int) = (lvR s z).b by have := hd.1; omega] at dd
    split
    · have o1 := lvPair_do h ha hc
      rw [lvPair_val d F G hM o1.i o1.ix (o1.idx hd) r, lvPair_val d F G hM h ha hc r, fv_old d F G o1 hd, ez, hM.ass, hM.irr _ _ (lvR s z) r]
    · rename_i h2
      obtain ⟨hc0, he, hf, _, _, _⟩ := h.deep hc (by omega)
      have ec := fv_of d F G h hc hc0
      have o1 := lvPair_do h ha he
      have o2 := lvPair_do o1.i (o1.idx hf) (o1.idx hd)
      rw [lvPair_val d F G hM o2.i (o2.idx o1.ix) o2.ix r, fv_old d F G o2 o1.ix, lvPair_val d F G hM h ha he r, lvPair_val d F G hM o1.i (o1.idx hf) (o1.idx hd) r, fv_old d F G o1 hf, fv_old d F G o1 hd, ez, ec,
        hM.irr _ _ (lvR s z) r, hM.irr _ _ (lvR s (lvR s z).a) r, hM.ass, hM.ass]
theorem lvRight_val {s : LvS} (h : LvI s) {a z : Int} (ha : Idx s a) (hz : Idx s z) (r : Fac) : fv d F G (lvRight s a z).1 (lvRight s a z).2 = G (fv d F G s z) (fv d F G s a) r := by
  have da := h.lo a.toNat (by have := ha.1; have := ha.2; omega)
  rw [show ((a.toNat : Nat) : Int) = a by have := ha.1; omega] at da
  unfold lvRight
  split
  · exact lvPair_val d F G hM h hz ha r
  · rename_i h1
    obtain ⟨hz0, hd, hc, _, _, _⟩ := h.deep hz (by omega)
    have ez := fv_of d F G h hz hz0
    have dd := h.lo (lvR s z).a.toNat (by have := hd.1; have := hd.2; omega)
    rw [show (((lvR s z).a.toNat : Nat) : Int) = (lvR s z).a by have := hd.1; omega] at dd
    split
    · have o1 := lvPair_do h hc ha
      rw [lvPair_val d F G hM o1.i (o1.idx hd) o1.ix r, lvPair_val d F G hM h hc ha r, fv_old d F G o1 hd, ez, hM.irr _ _ (lvR s z) r, hM.ass]
    · rename_i h2
      obtain ⟨hc0, hf, he, _, _, _⟩ := h.deep hc (by omega)
      have ec := fv_of d F G h hc hc0
      have o1 := lvPair_do h hd hf
      have o2 := lvPair_do o1.i (o1.idx he) (o1.idx ha)
      rw [lvPair_val d F G hM o2.i (o2.idx o1.ix) o2.ix r, fv_old d F G o2 o1.ix, lvPair_val d F G hM h hd hf r, lvPair_val d F G hM o1.i (o1.idx he) (o1.idx ha) r, fv_old d F G o1 he, fv_old d F G o1 ha, ez, ec,
        hM.irr _ _ (lvR s z) r, hM.irr _ _ (lvR s (lvR s z).b) r, hM.ass, hM.ass, hM.ass]
theorem lvLevel_val : ∀ (f : Nat) {s : LvS} (_ : LvI s) {l r : Int} (_ : Idx s l) (_ : Idx s r), l + r ≤ f → ∀ x : Fac, fv d F G (lvLevel f s l r).1 (lvLevel f s l r).2 = G (fv d F G s l) (fv d F G s r) x
  | 0, s, h, l, r, hl, hr, hf, x => lvPair_val d F G hM h hl hr x
  | f + 1, s, h, l, r, hl, hr, hf, x => by
    have d1 := h.lo l.toNat (by have := hl.1; have := hl.2; omega)
    have d2 := h.lo r.toNat (by have := hr.1; have := hr.2; omega)
    rw [show ((l.toNat : Nat) : Int) = l by have := hl.1; omega] at d1
    rw [show ((r.toNat : Nat) : Int) = r by have := hr.1; omega] at d2
    unfold lvLevel
    split
    · obtain ⟨h0, ha, hb, ha2, hb2, _⟩ := h.deep hl (by omega)
      have o1 := lvLevel_do f h hb hr (by omega)
      rw [lvLeft_val d F G hM o1.i (o1.idx ha) o1.ix x, fv_old d F G o1 ha, lvLevel_val f h hb hr (by omega) x, fv_of d F G h hl h0, hM.irr _ _ (lvR s l) x, hM.ass]
    · split
      · obtain ⟨h0, ha, hb, ha2, hb2, _⟩ := h.deep hr (by omega)
        have o1 := lvLevel_do f h hl ha (by omega)
        rw [lvRight_val d F G hM o1.i (o1.idx hb) o1.ix x, fv_old d F G o1 hb, lvLevel_val f h hl ha (by omega) x, fv_of d F G h hr h0, hM.irr _ _ (lvR s r) x, hM.ass]
      · exact lvPair_val d F G hM h hl hr x
end
/-- every pair of rules is level -/
def Bal (s : LvS) : Prop := ∀ (k : Nat) (r : Fac), s.rs[k]? = some r → r.l.size = 0 → -1 ≤ lvD s r.a - lvD s r.b ∧ lvD s r.a - lvD s r.b ≤ 1
theorem lvD_ok {s : LvS} (h : LvI s) {k : Int} (hk : Idx s k) : 1 ≤ lvD s k := by
  have := h.lo k.toNat (by have := hk.1; have := hk.2; omega)
  rw [show ((k.toNat : Nat) : Int) = k by have := hk.1; omega] at this
  exact this.1
theorem Bal.at_ {s : LvS} (hb : Bal s) (h : LvI s) {k : Int} (hk : Idx s k) (hd : 1 < lvD s k) : (lvR s k).l.size = 0 ∧ Idx s (lvR s k).a ∧ Idx s (lvR s k).b ∧ lvD s k = max (lvD s (lvR s k).a) (lvD s (lvR s k).b) + 1 ∧ -1 ≤ lvD s (lvR s k).a - lvD s (lvR s k).b ∧ lvD s (lvR s k).a - lvD s (lvR s k).b ≤ 1 ∧ (lvR s k).a < k ∧ (lvR s k).b < k := by
  obtain ⟨h0, ha, hb2, h1, h2, h3⟩ := h.deep hk hd
  have := hb k.toNat _ (h.get hk) h0
  exact ⟨h0, ha, hb2, h3, this.1, this.2, h1, h2⟩
theorem lvPair_bal {s : LvS} (h : LvI s) (hB : Bal s) {a b : Int} (ha : Idx s a) (hb : Idx s b) (h1 : -1 ≤ lvD s a - lvD s b) (h2 : lvD s a - lvD s b ≤ 1) :
    Bal (lvPair s a b).1 ∧ lvD (lvPair s a b).1 (lvPair s a b).2 = max (lvD s a) (lvD s b) + 1 := by
  have o := lvPair_do h ha hb
  have hr : (lvPair s a b).1.rs[(lvPair s a b).2.toNat]? = some ⟨⟨#[]⟩, a, b⟩ := by
    unfold lvPair lvRule
    split
    · rename_i hm
      have hl := List.idxOf_lt_length_of_mem hm
      show s.rs[((s.rs.idxOf (⟨⟨#[]⟩, a, b⟩ : Fac) : Nat) : Int).toNat]? = _
      rw [Int.toNat_natCast, List.getElem?_eq_getElem hl, List.getElem_idxOf hl]
    · show (s.rs ++ [(⟨⟨#[]⟩, a, b⟩ : Fac)])[((s.rs.length : Nat) : Int).toNat]? = _
      rw [Int.toNat_natCast, List.getElem?_append_right (Nat.le_refl _), Nat.sub_self]; rfl
  have hdep := o.i.dep _ _ hr
  rw [show (((lvPair s a b).2.toNat : Nat) : Int) = (lvPair s a b).2 by have := o.ix.1; omega] at hdep
  refine ⟨fun k r hk h0 => ?_, ?_⟩
  · by_cases hlt : k < s.rs.length
    · obtain ⟨er, ed, e1, _⟩ := o.ext
      have hk' : s.rs[k]? = some r := by rw [e1, List.getElem?_append_left hlt] at hk; exact hk
      have := hB k r hk' h0
      rcases h.wf k r hk' with ⟨_, a0, a1, b0, b1⟩ | ⟨c, _, hl, _⟩
      · rw [o.d h ⟨a0, by omega⟩, o.d h ⟨b0, by omega⟩]; exact this
      · rw [hl] at h0; exact absurd h0 (show ¬ (1 : Nat) = 0 by omega)
    · have hl := (List.getElem?_eq_some_iff.1 hk).1
      have e1 : k = (lvPair s a b).2.toNat := by
        unfold lvPair lvRule at hl ⊢
        split at hl
        · exact absurd hl hlt
        · rename_i hm
          rw [if_neg hm]
          show k = ((s.rs.length : Nat) : Int).toNat
          simp at hl
          omega
      rw [e1, hr] at hk
      injection hk with hk
      subst hk
      show -1 ≤ lvD _ a - lvD _ b ∧ lvD _ a - lvD _ b ≤ 1
      rw [o.d h ha, o.d h hb]; exact ⟨h1, h2⟩
  · rw [hdep]
    show (if (⟨#[]⟩ : ByteArray).size = 0 then max (lvD _ a) (lvD _ b) + 1 else 1) = _
    rw [if_pos (show (⟨#[]⟩ : ByteArray).size = 0 from rfl), o.d h ha, o.d h hb]
theorem lvLeft_bal {s : LvS} (h : LvI s) (hB : Bal s) {a z : Int} (ha : Idx s a) (hz : Idx s z) (h1 : lvD s a - 1 ≤ lvD s z) (h2 : lvD s z ≤ lvD s a + 2) :
    Bal (lvLeft s a z).1 ∧ (lvD s z ≤ lvD s a + 1 → lvD (lvLeft s a z).1 (lvLeft s a z).2 = max (lvD s a) (lvD s z) + 1) ∧ (lvD s a + 1 < lvD s z → lvD s a + 2 ≤ lvD (lvLeft s a z).1 (lvLeft s a z).2 ∧ lvD (lvLeft s a z).1 (lvLeft s a z).2 ≤ lvD s a + 3) := by
  have da := lvD_ok h ha
  unfold lvLeft
  split
  · rename_i hc
    obtain ⟨p1, p2⟩ := lvPair_bal h hB ha hz (by omega) (by omega)
    exact ⟨p1, fun _ => p2, fun e => by omega⟩
  · rename_i hc
    obtain ⟨z0, ic, id, ez, zb1, zb2, _, _⟩ := hB.at_ h hz (by omega)
    split
    · rename_i hcd
      have o1 := lvPair_do h ha ic
      obtain ⟨p1, p2⟩ := lvPair_bal h hB ha ic (by omega) (by omega)
      obtain ⟨q1, q2⟩ := lvPair_bal o1.i p1 o1.ix (o1.idx id) (by rw [p2, o1.d h id]; omega) (by rw [p2, o1.d h id]; omega)
      refine ⟨q1, fun e => by omega, fun _ => ?_⟩
      rw [q2, p2, o1.d h id]
      omega
    · rename_i hcd
      obtain ⟨c0, ie, if_, ec, cb1, cb2, _, _⟩ := hB.at_ h ic (by omega)
      have o1 := lvPair_do h ha ie
      obtain ⟨p1, p2⟩ := lvPair_bal h hB ha ie (by omega) (by omega)
      have o2 := lvPair_do o1.i (o1.idx if_) (o1.idx id)
      obtain ⟨q1, q2⟩ := lvPair_bal o1.i p1 (o1.idx if_) (o1.idx id) (by rw [o1.d h if_, o1.d h id]; omega) (by rw [o1.d h if_, o1.d h id]; omega)
      rw [o1.d h if_, o1.d h id] at q2
      have o3d := o2.d o1.i o1.ix
      obtain ⟨u1, u2⟩ := lvPair_bal o2.i q1 (o2.idx o1.ix) o2.ix (by rw [o3d, p2, q2]; omega) (by rw [o3d, p2, q2]; omega)
      refine ⟨u1, fun e => by omega, fun _ => ?_⟩
      rw [u2, o3d, p2, q2]
      omega
theorem lvRight_bal {s : LvS} (h : LvI s) (hB : Bal s) {a z : Int} (ha : Idx s a) (hz : Idx s z) (h1 : lvD s a - 1 ≤ lvD s z) (h2 : lvD s z ≤ lvD s a + 2) :
    Bal (lvRight s a z).1 ∧ (lvD s z ≤ lvD s a + 1 → lvD (lvRight s a z).1 (lvRight s a z).2 = max (lvD s a) (lvD s z) + 1) ∧ (lvD s a + 1 < lvD s z → lvD s a + 2 ≤ lvD (lvRight s a z).1 (lvRight s a z).2 ∧ lvD (lvRight s a z).1 (lvRight s a z).2 ≤ lvD s a + 3) := by
  have da := lvD_ok h ha
  unfold lvRight
  split
  · rename_i hc
    obtain ⟨p1, p2⟩ := lvPair_bal h hB hz ha (by omega) (by omega)
    exact ⟨p1, fun _ => by rw [p2]; omega, fun e => by omega⟩
  · rename_i hc
    obtain ⟨z0, id, ic, ez, zb1, zb2, _, _⟩ := hB.at_ h hz (by omega)
    split
    · rename_i hcd
      have o1 := lvPair_do h ic ha
      obtain ⟨p1, p2⟩ := lvPair_bal h hB ic ha (by omega) (by omega)
      obtain ⟨q1, q2⟩ := lvPair_bal o1.i p1 (o1.idx id) o1.ix (by rw [p2, o1.d h id]; omega) (by rw [p2, o1.d h id]; omega)
      refine ⟨q1, fun e => by omega, fun _ => ?_⟩
      rw [q2, p2, o1.d h id]
      omega
    · rename_i hcd
      obtain ⟨c0, if_, ie, ec, cb1, cb2, _, _⟩ := hB.at_ h ic (by omega)
      have o1 := lvPair_do h id if_
      obtain ⟨p1, p2⟩ := lvPair_bal h hB id if_ (by omega) (by omega)
      have o2 := lvPair_do o1.i (o1.idx ie) (o1.idx ha)
      obtain ⟨q1, q2⟩ := lvPair_bal o1.i p1 (o1.idx ie) (o1.idx ha) (by rw [o1.d h ie, o1.d h ha]; omega) (by rw [o1.d h ie, o1.d h ha]; omega)
      rw [o1.d h ie, o1.d h ha] at q2
      have o3d := o2.d o1.i o1.ix
      obtain ⟨u1, u2⟩ := lvPair_bal o2.i q1 (o2.idx o1.ix) o2.ix (by rw [o3d, p2, q2]; omega) (by rw [o3d, p2, q2]; omega)
      refine ⟨u1, fun e => by omega, fun _ => ?_⟩
      rw [u2, o3d, p2, q2]
      omega
theorem lvLevel_bal : ∀ (f : Nat) {s : LvS} (_ : LvI s) (_ : Bal s) {l r : Int} (_ : Idx s l) (_ : Idx s r), l + r ≤ f →
    Bal (lvLevel f s l r).1 ∧ max (lvD s l) (lvD s r) ≤ lvD (lvLevel f s l r).1 (lvLevel f s l r).2 ∧ lvD (lvLevel f s l r).1 (lvLevel f s l r).2 ≤ max (lvD s l) (lvD s r) + 1
  | 0, s, h, hB, l, r, hl, hr, hf => by
    have e1 : l = 0 := by have := hl.1; have := hr.1; omega
    have e2 : r = 0 := by have := hl.1; have := hr.1; omega
    obtain ⟨p1, p2⟩ := lvPair_bal h hB hl hr (by rw [e1, e2]; omega) (by rw [e1, e2]; omega)
    show Bal (lvPair s l r).1 ∧ _ ≤ lvD (lvPair s l r).1 (lvPair s l r).2 ∧ lvD (lvPair s l r).1 (lvPair s l r).2 ≤ _
    exact ⟨p1, by rw [p2]; omega, by rw [p2]; omega⟩
  | f + 1, s, h, hB, l, r, hl, hr, hf => by
    have d1 := lvD_ok h hl
    have d2 := lvD_ok h hr
    unfold lvLevel
    split
    · obtain ⟨h0, ia, ib, el, lb1, lb2, ha2, hb2⟩ := hB.at_ h hl (by omega)
      have o1 := lvLevel_do f h ib hr (by omega)
      obtain ⟨b1, z1, z2⟩ := lvLevel_bal f h hB ib hr (by omega)
      have ea := o1.d h ia
      obtain ⟨q1, q2, q3⟩ := lvLeft_bal o1.i b1 (o1.idx ia) o1.ix (by omega) (by omega)
      refine ⟨q1, ?_⟩
      generalize (lvLevel f s (lvR s l).b r) = t at *
      rcases Int.lt_or_le (lvD t.1 (lvR s l).a + 1) (lvD t.1 t.2) with c | c
      · have := q3 c; omega
      · have := q2 c; omega
    · split
      · obtain ⟨h0, ia, ib, el, lb1, lb2, ha2, hb2⟩ := hB.at_ h hr (by omega)
        have o1 := lvLevel_do f h hl ia (by omega)
        obtain ⟨b1, z1, z2⟩ := lvLevel_bal f h hB hl ia (by omega)
        have ea := o1.d h ib
        obtain ⟨q1, q2, q3⟩ := lvRight_bal o1.i b1 (o1.idx ib) o1.ix (by omega) (by omega)
        refine ⟨q1, ?_⟩
        generalize (lvLevel f s l (lvR s r).a) = t at *
        rcases Int.lt_or_le (lvD t.1 (lvR s r).b + 1) (lvD t.1 t.2) with c | c
        · have := q3 c; omega
        · have := q2 c; omega
      · obtain ⟨p1, p2⟩ := lvPair_bal h hB hl hr (by omega) (by omega)
        exact ⟨p1, by rw [p2]; omega, by rw [p2]; omega⟩
/-- lengths -/
def fl (s : LvS) (k : Int) : Int := fv 0 lenF lenG s k
theorem lenMon : Mon lenG := ⟨fun _ _ _ _ => rfl, fun a b c _ => by unfold lenG; omega⟩
theorem fl_pos {s : LvS} (h : LvI s) {k : Int} (hk : Idx s k) : 1 ≤ fl s k :=
  full_ind 0 lenF lenG h.wf (fun _ v => 1 ≤ v) (fun _ _ _ _ => by unfold lenF; omega) (fun _ _ a b _ _ _ _ _ _ h1 h2 => by unfold lenG; omega) k.toNat (by have := hk.1; have := hk.2; omega)
/-- what is made anew is not longer than B -/
def New (s t : LvS) (B : Int) : Prop := ∀ k : Nat, s.rs.length ≤ k → k < t.rs.length → fl t (k : Int) ≤ B
theorem New.refl (s : LvS) (B : Int) : New s s B := fun k h1 h2 => by omega
theorem New.trans {s : LvS} {t u : LvS × Int} {g : Nat} {B : Int} (h1 : New s t.1 B) (h2 : New t.1 u.1 B) (ho : LvO t.1 u g) : New s u.1 B := fun k hk hl => by
  by_cases hm : k < t.1.rs.length
  · have := fv_old 0 lenF lenG ho (k := (k : Int)) ⟨by omega, by omega⟩
    unfold fl
    rw [this]
    exact h1 k hk hm
  · exact h2 k (by omega) hl
theorem lvPair_new {s : LvS} (h : LvI s) {a b : Int} (ha : Idx s a) (hb : Idx s b) {B : Int} (hB : fl s a + fl s b ≤ B) : New s (lvPair s a b).1 B := fun k hk hl => by
  have hv := lvPair_val 0 lenF lenG lenMon h ha hb default
  have e : (k : Int) = (lvPair s a b).2 := by
    unfold lvPair lvRule at hl ⊢
    split at hl
    · have hl' : k < s.rs.length := hl
      omega
    · rename_i hm
      rw [if_neg hm]
      show (k : Int) = (s.rs.length : Int)
      simp at hl
      omega
  unfold fl
  rw [e, hv]
  unfold fl at hB
  unfold lenG
  exact hB
theorem lvLeft_new {s : LvS} (h : LvI s) {a z : Int} (ha : Idx s a) (hz : Idx s z) {B : Int} (hB : fl s a + fl s z ≤ B) : New s (lvLeft s a z).1 B := by
  have da := lvD_ok h ha
  have la := fl_pos h ha
  unfold lvLeft
  split
  · exact lvPair_new h ha hz hB
  · rename_i h1
    obtain ⟨hz0, hc, hd, _, _, _⟩ := h.deep hz (by omega)
    have ez : fl s z = fl s (lvR s z).a + fl s (lvR s z).b := fv_of 0 lenF lenG h hz hz0
    have dd := lvD_ok h hd
    have lc := fl_pos h hc
    have ld := fl_pos h hd
    split
    · have o1 := lvPair_do h ha hc
      have v1 : fl (lvPair s a (lvR s z).a).1 (lvPair s a (lvR s z).a).2 = fl s a + fl s (lvR s z).a := lvPair_val 0 lenF lenG lenMon h ha hc default
      have v2 : fl (lvPair s a (lvR s z).a).1 (lvR s z).b = fl s (lvR s z).b := fv_old 0 lenF lenG o1 hd
      have o2 := lvPair_do o1.i o1.ix (o1.idx hd)
      exact New.trans (lvPair_new h ha hc (by omega)) (lvPair_new o1.i o1.ix (o1.idx hd) (by omega)) o2
    · rename_i h2
      obtain ⟨hc0, he, hf, _, _, _⟩ := h.deep hc (by omega)
      have ec : fl s (lvR s z).a = fl s (lvR s (lvR s z).a).a + fl s (lvR s (lvR s z).a).b := fv_of 0 lenF lenG h hc hc0
      have le := fl_pos h he
      have lf := fl_pos h hf
      have o1 := lvPair_do h ha he
      have o2 := lvPair_do o1.i (o1.idx hf) (o1.idx hd)
      have o3 := lvPair_do o2.i (o2.idx o1.ix) o2.ix
      have v1 : fl (lvPair s a (lvR s (lvR s z).a).a).1 (lvPair s a (lvR s (lvR s z).a).a).2 = fl s a + fl s (lvR s (lvR s z).a).a := lvPair_val 0 lenF lenG lenMon h ha he default
      have v2 : fl (lvPair s a (lvR s (lvR s z).a).a).1 (lvR s z).b = fl s (lvR s z).b := fv_old 0 lenF lenG o1 hd
      have v3 : fl (lvPair s a (lvR s (lvR s z).a).a).1 (lvR s (lvR s z).a).b = fl s (lvR s (lvR s z).a).b := fv_old 0 lenF lenG o1 hf
      have v4 := fv_old 0 lenF lenG o2 o1.ix
      have v5 : fl _ _ = fl _ _ + fl _ _ := lvPair_val 0 lenF lenG lenMon o1.i (o1.idx hf) (o1.idx hd) default
      have v4' : fl (lvPair (lvPair s a (lvR s (lvR s z).a).a).1 (lvR s (lvR s z).a).b (lvR s z).b).1 (lvPair s a (lvR s (lvR s z).a).a).2 = fl (lvPair s a (lvR s (lvR s z).a).a).1 (lvPair s a (lvR s (lvR s z).a).a).2 := v4
      exact New.trans (New.trans (lvPair_new h ha he (by omega)) (lvPair_new o1.i (o1.idx hf) (o1.idx hd) (by omega)) o2) (lvPair_new o2.i (o2.idx o1.ix) o2.ix (by rw [v4', v5, v1, v2, v3]; omega)) o3
theorem lvRight_new {s : LvS} (h : LvI s) {a z : Int} (ha : Idx s a) (hz : Idx s z) {B : Int} (hB : fl s a + fl s z ≤ B) : New s (lvRight s a z).1 B := by
  have da := lvD_ok h ha
  have la := fl_pos h ha
  unfold lvRight
  split
  · exact lvPair_new h hz ha (by omega)
  · rename_i h1
    obtain ⟨hz0, hd, hc, _, _, _⟩ := h.deep hz (by omega)
    have ez : fl s z = fl s (lvR s z).a + fl s (lvR s z).b := fv_of 0 lenF lenG h hz hz0
    have dd := lvD_ok h hd
    have lc := fl_pos h hc
    have ld := fl_pos h hd
    split
    · have o1 := lvPair_do h hc ha
      have v1 : fl (lvPair s (lvR s z).b a).1 (lvPair s (lvR s z).b a).2 = fl s (lvR s z).b + fl s a := lvPair_val 0 lenF lenG lenMon h hc ha default
      have v2 : fl (lvPair s (lvR s z).b a).1 (lvR s z).a = fl s (lvR s z).a := fv_old 0 lenF lenG o1 hd
      have o2 := lvPair_do o1.i (o1.idx hd) o1.ix
      exact New.trans (lvPair_new h hc ha (by omega)) (lvPair_new o1.i (o1.idx hd) o1.ix (by omega)) o2
    · rename_i h2
      obtain ⟨hc0, hf, he, _, _, _⟩ := h.deep hc (by omega)
      have ec : fl s (lvR s z).b = fl s (lvR s (lvR s z).b).a + fl s (lvR s (lvR s z).b).b := fv_of 0 lenF lenG h hc hc0
      have le := fl_pos h he
      have lf := fl_pos h hf
      have o1 := lvPair_do h hd hf
      have o2 := lvPair_do o1.i (o1.idx he) (o1.idx ha)
      have o3 := lvPair_do o2.i (o2.idx o1.ix) o2.ix
      have v1 : fl (lvPair s (lvR s z).a (lvR s (lvR s z).b).a).1 (lvPair s (lvR s z).a (lvR s (lvR s z).b).a).2 = fl s (lvR s z).a + fl s (lvR s (lvR s z).b).a := lvPair_val 0 lenF lenG lenMon h hd hf default
      have v2 : fl (lvPair s (lvR s z).a (lvR s (lvR s z).b).a).1 a = fl s a := fv_old 0 lenF lenG o1 ha
      have v3 : fl (lvPair s (lvR s z).a (lvR s (lvR s z).b).a).1 (lvR s (lvR s z).b).b = fl s (lvR s (lvR s z).b).b := fv_old 0 lenF lenG o1 he
      have v5 : fl _ _ = fl _ _ + fl _ _ := lvPair_val 0 lenF lenG lenMon o1.i (o1.idx he) (o1.idx ha) default
      have v4' : fl (lvPair (lvPair s (lvR s z).a (lvR s (lvR s z).b).a).1 (lvR s (lvR s z).b).b a).1 (lvPair s (lvR s z).a (lvR s (lvR s z).b).a).2 = fl (lvPair s (lvR s z).a (lvR s (lvR s z).b).a).1 (lvPair s (lvR s z).a (lvR s (lvR s z).b).a).2 := fv_old 0 lenF lenG o2 o1.ix
      exact New.trans (New.trans (lvPair_new h hd hf (by omega)) (lvPair_new o1.i (o1.idx he) (o1.idx ha) (by omega)) o2) (lvPair_new o2.i (o2.idx o1.ix) o2.ix (by rw [v4', v5, v1, v2, v3]; omega)) o3
theorem lvLevel_new : ∀ (f : Nat) {s : LvS} (_ : LvI s) {l r : Int} (_ : Idx s l) (_ : Idx s r), l + r ≤ f → ∀ {B : Int}, fl s l + fl s r ≤ B → New s (lvLevel f s l r).1 B
  | 0, s, h, l, r, hl, hr, hf, B, hB => lvPair_new h hl hr hB
  | f + 1, s, h, l, r, hl, hr, hf, B, hB => by
    have d1 := lvD_ok h hl
    have d2 := lvD_ok h hr
    have ll := fl_pos h hl
    have lr := fl_pos h hr
    unfold lvLevel
    split
    · obtain ⟨h0, ha, hb, ha2, hb2, _⟩ := h.deep hl (by omega)
      have el : fl s l = fl s (lvR s l).a + fl s (lvR s l).b := fv_of 0 lenF lenG h hl h0
      have la := fl_pos h ha
      have o1 := lvLevel_do f h hb hr (by omega)
      have v1 : fl (lvLevel f s (lvR s l).b r).1 (lvLevel f s (lvR s l).b r).2 = fl s (lvR s l).b + fl s r := lvLevel_val 0 lenF lenG lenMon f h hb hr (by omega) default
      have v2 : fl (lvLevel f s (lvR s l).b r).1 (lvR s l).a = fl s (lvR s l).a := fv_old 0 lenF lenG o1 ha
      have o2 := lvLeft_do o1.i (o1.idx ha) o1.ix
      exact New.trans (lvLevel_new f h hb hr (by omega) (by omega)) (lvLeft_new o1.i (o1.idx ha) o1.ix (by omega)) o2
    · split
      · obtain ⟨h0, ha, hb, ha2, hb2, _⟩ := h.deep hr (by omega)
        have el : fl s r = fl s (lvR s r).a + fl s (lvR s r).b := fv_of 0 lenF lenG h hr h0
        have lb := fl_pos h hb
        have o1 := lvLevel_do f h hl ha (by omega)
        have v1 : fl (lvLevel f s l (lvR s r).a).1 (lvLevel f s l (lvR s r).a).2 = fl s l + fl s (lvR s r).a := lvLevel_val 0 lenF lenG lenMon f h hl ha (by omega) default
        have v2 : fl (lvLevel f s l (lvR s r).a).1 (lvR s r).b = fl s (lvR s r).b := fv_old 0 lenF lenG o1 hb
        have o2 := lvRight_do o1.i (o1.idx hb) o1.ix
        exact New.trans (lvLevel_new f h hl ha (by omega) (by omega)) (lvRight_new o1.i (o1.idx hb) o1.ix (by omega)) o2
      · exact lvPair_new h hl hr hB
end Go.Proofs.Ytajfjgemfnfakaa


/-
  impl.folded at int64: what it makes of a grammar, by the contracts of the two functions that it is handed.
-/
namespace Go.Proofs.Ytajfjgemfnfakaa
open Go.RowKit

theorem calls_arg {P : Program} {f : FuncId} {a b : Int} {cl : Array Value} {w : World} {Q : Ending → World → Prop} (h : a = b) (hc : Calls P f (#[.int .i64 b] ++ cl) w Q) : Calls P f (#[.int .i64 a] ++ cl) w Q := by rw [h]; exact hc
/-- a function of the program's own, that can be called by its value -/
def EnterOk (f : FuncId) : Prop := ∀ (args : Array Value) (w : World), Sem.run Try.prog (callFunc f args) w = .ok (.enter f args) w
theorem enterOk {f : FuncId} {fn : Func} (h : Try.prog.funcs[f]? = some fn) (h1 : (fn.name == "runtime.NumGoroutine") = false) (h2 : fn.body.isNone = false) : EnterOk f := by
  intro args w
  have h3 : ¬ fn.name = "runtime.NumGoroutine" := by simpa using h1
  have h4 : ¬ fn.body = none := by intro e; rw [e] at h2; cases h2
  simp [callFunc, h, h3, h4]

set_option maxHeartbeats 1000000 in
set_option maxRecDepth 100000 in
theorem foldI_any (fl fp : Nat) (el : EnterOk fl) (ep : EnterOk fp) (cl cp : Array Value) (F : Nat → Int) (G : Int → Int → Fac → Int) (z : Int) (A : Option Addr) (n c : Nat) (rs : List Fac) (w : World) (hn : n ≤ 1048576) (hr : Rd w w.heap.size A n 3 Fac.cells rs) (hwf : WF rs)
    (hF : ∀ (k : Nat) (r : Fac), rs[k]? = some r → r.l.size ≠ 0 → ∀ w', Below w.heap.size w w' → Calls Try.prog fl (#[.int .i64 (letN r.l : Nat)] ++ cl) w' (Ret (.int .i64 (F (letN r.l))) w'))
    (hG : ∀ (k : Nat) (r : Fac), rs[k]? = some r → r.l.size = 0 → ∀ w', Below w.heap.size w w' →
      Calls Try.prog fp (#[.int .i64 ((outs 0 F G rs k).getD r.a.toNat 0), .int .i64 ((outs 0 F G rs k).getD r.b.toNat 0), r.val] ++ cp) w' (Ret (.int .i64 (G ((outs 0 F G rs k).getD r.a.toNat 0) ((outs 0 F G rs k).getD r.b.toNat 0) r)) w')) :
    Calls Try.prog 56 #[.agg #[.slice A n c], .int .i64 z, .func (.func fl) #[] cl, .func (.func fp) #[] cp] w (RetNew w 2 1 intE (foldAll 0 F G z rs)) := by
  have hl := Lib.hid hr.len
  have HF := Lib.hid hF; clear hF
  unfold EnterOk at el ep
  have HG := Lib.hid hG; clear hG
  have HW := Lib.hid hwf; clear hwf
  go_enter Try.func56, Try.ntmps56
  go_wp2_with fail
  go_loopw [9, 16] (fun o_ i_ w' => ∃ (k : Nat) (A' : Option Addr) (c' : Nat), i_ = .int .i64 k ∧ o_ = .slice A' k c' ∧ k ≤ n ∧
      Hid (w'.ownsRow w.heap.size 2 1 (.slice A' k c') k ((outs 0 F G rs k).flatMap intE)) ∧ Below w.heap.size w w') (fun _ i_ _ => n - (intOf i_).toNat)
  case atStart =>
    exact ⟨0, _, 0, rfl, rfl, by omega, Lib.hid (by simpa [outs, foldG] using World.ownsRow_made (base := w.heap.size) (e := 2) (size := 1) (w.alloc (.cells #[.slice A n c] 26)) #[] 0 (by simp) (by unfold maxLen; omega) rfl), by (repeat first | exact Below.refl _ _ | assumption | refine Below.drew ?_ | refine Below.alloc ?_ (by first | exact Nat.le_refl _ | (simp; done) | omega | (simp; omega)) _ | refine Below.setCell ?_ (by first | exact Nat.le_refl _ | (simp; done) | omega | (simp; omega)) _)⟩
  case round =>
    obtain ⟨k, A', c', rfl, rfl, hk, hown, hb⟩ := hrel
    by_cases hlt : k < n
    · obtain ⟨b, o, x, rfl, hB, gx, c0, c1, c2⟩ := (hr.next hb).fac hlt
      have Hst := Lib.hid (outs_step 0 F G gx)
      have Hol := Lib.hid (outs_len 0 F G rs k (by rw [hl.out]; exact hk))
      rcases HW.out k x gx with ⟨h0, ha0, ha1, hb0, hb1⟩ | ⟨cc, hcc, hxl, hxa, hxb⟩
      · have hG := HG.out k x gx h0
        have hfs := Lib.hid (show fStep 0 F G (outs 0 F G rs k) x = G ((outs 0 F G rs k).getD x.a.toNat 0) ((outs 0 F G rs k).getD x.b.toNat 0) x by unfold fStep; rw [if_pos h0])
        have HG2 := Lib.hid hG; clear hG gx
        go_wp2_with fail
        refine (isPair_any x true _ (by simpa [isP] using h0)).mono ?_
        rintro e w1 ⟨rfl, hb1'⟩
        obtain ⟨d0, d1, d2⟩ := ((Blk.new wr _ _).next hb1').three
        have b1 := (hb.alloc hb.size _).trans (hb1'.mono (by have := hb.size; simp; omega))
        have hz1 : wr.heap.size < w1.heap.size := ((Blk.new wr 59 #[.string x.l, .int .i64 x.a, .int .i64 x.b]).next hb1').lt
        have own1 := Lib.hid (own_next (hown.out.alloc _) hb1')
        obtain ⟨g, rfl, hg0, hg1, e1⟩ := own_int own1.out Hol.out x.a ha0 (by omega)
        obtain ⟨g', hgg, _, _, e2⟩ := own_int own1.out Hol.out x.b hb0 (by omega)
        obtain rfl : g = g' := by injection hgg with hgg; injection hgg
        clear hgg
        have na : x.a.toNat < k := by omega
        have nb : x.b.toNat < k := by omega
        have HE1 := Lib.hid (fun (w' : World) (h : w'.ownsRow w.heap.size 2 1 (.slice (some ⟨g, 0, none⟩) k c') k ((outs 0 F G rs k).flatMap intE)) =>
          show w'.cell? ⟨g, x.a.toNat, none⟩ = some (.int .i64 ((outs 0 F G rs k).getD x.a.toNat 0)) by simpa [intE] using own_at (enc := intE) (sz := 1) (fun _ _ => rfl) h Hol.out 0 x.a.toNat na 0 Nat.zero_lt_one)
        have HE2 := Lib.hid (fun (w' : World) (h : w'.ownsRow w.heap.size 2 1 (.slice (some ⟨g, 0, none⟩) k c') k ((outs 0 F G rs k).flatMap intE)) =>
          show w'.cell? ⟨g, x.b.toNat, none⟩ = some (.int .i64 ((outs 0 F G rs k).getD x.b.toNat 0)) by simpa [intE] using own_at (enc := intE) (sz := 1) (fun _ _ => rfl) h Hol.out 0 x.b.toNat nb 0 Nat.zero_lt_one)
        generalize (outs 0 F G rs k).getD x.a.toNat 0 = y1 at *
        generalize (outs 0 F G rs k).getD x.b.toNat 0 = y2 at *
        have hgw : some wr.heap.size ≠ (Value.slice (some ⟨g, 0, none⟩) k c').ownBlock := by intro e; have h1 : g < wr.heap.size := (hown.out.lt g rfl).2; have h2 : wr.heap.size = g := Option.some.inj e; omega
        clear h0
        go_wp2_with fail
        go_region_held3 (fun w' => w'.cell? ⟨wr.heap.size, 0, none⟩ = some (.string x.l) ∧ w'.cell? ⟨wr.heap.size, 1, none⟩ = some (.int .i64 x.a) ∧ w'.cell? ⟨wr.heap.size, 2, none⟩ = some (.int .i64 x.b) ∧ w'.cell? ⟨g, x.a.toNat, none⟩ = some (.int .i64 y1) ∧ w'.cell? ⟨g, x.b.toNat, none⟩ = some (.int .i64 y2))
          (first | exact ⟨t0, t1, t2, t3, t4⟩ | exact ⟨s0, s1, s2, s3, s4⟩ | go_keep)
          (first
            | (refine (HG2.out _ b1.drew).mono ?_
               rintro e w2 ⟨rfl, hb2⟩
               have hz2 : wr.heap.size < w2.heap.size := Nat.lt_of_lt_of_le hz1 hb2.size
               have s0 : w2.cell? ⟨wr.heap.size, 0, none⟩ = some (.string x.l) := (hb2.cell (p := ⟨wr.heap.size, 0, none⟩) hz1).trans d0
               have s1 : w2.cell? ⟨wr.heap.size, 1, none⟩ = some (.int .i64 x.a) := (hb2.cell (p := ⟨wr.heap.size, 1, none⟩) hz1).trans d1
               have s2 : w2.cell? ⟨wr.heap.size, 2, none⟩ = some (.int .i64 x.b) := (hb2.cell (p := ⟨wr.heap.size, 2, none⟩) hz1).trans d2
               have s3 : w2.cell? ⟨g, x.a.toNat, none⟩ = some (.int .i64 y1) := (hb2.cell (p := ⟨g, x.a.toNat, none⟩) hg1).trans e1
               have s4 : w2.cell? ⟨g, x.b.toNat, none⟩ = some (.int .i64 y2) := (hb2.cell (p := ⟨g, x.b.toNat, none⟩) hg1).trans e2)
            | (refine step_push (by rfl) _ _ _ (by rfl) w.heap.size 2 1 8 elem_int intE (some ⟨g, 0, none⟩) k c' (outs 0 F G rs k) (by rfl) ((own_next own1.out.drew hb2).alloc _) w2.heap.size (G y1 y2 x) #[.int .i64 (G y1 y2 x)] 2 (0, 0) (by rfl) (heap_alloc_new _ _) rfl rfl (by simp [intE, Value.oneCell']) (by omega) (by omega) (by unfold maxLen; omega) (Nat.le_trans b1.size (Nat.le_trans hb2.size (by simp))) ?_
               intro A5 c5 w5 own5 hg5 old5
               have t0 : w5.cell? ⟨wr.heap.size, 0, none⟩ = some (.string x.l) := far_alloc hg5 s0 hz2 hgw
               have t1 : w5.cell? ⟨wr.heap.size, 1, none⟩ = some (.int .i64 x.a) := far_alloc hg5 s1 hz2 hgw
               have t2 : w5.cell? ⟨wr.heap.size, 2, none⟩ = some (.int .i64 x.b) := far_alloc hg5 s2 hz2 hgw
               have t3 : w5.cell? ⟨g, x.a.toNat, none⟩ = some (.int .i64 y1) := HE1.out w5 old5
               have t4 : w5.cell? ⟨g, x.b.toNat, none⟩ = some (.int .i64 y2) := HE2.out w5 old5))
        go_wp2_with fail
        go_roundw
        case rel =>
          refine ⟨k + 1, A5, c5, by go_num, rfl, by omega, Lib.hid ?_, ?_⟩
          · rw [Hst.out, hfs.out]; exact own5
          · exact ((b1.drew.trans (hb2.mono b1.size)).alloc (Nat.le_trans b1.size hb2.size) _).grown hg5 (Nat.le_trans b1.size (Nat.le_trans hb2.size (by simp))) (own_ge own1.out)
        case measure => simp [intOf]; omega
      · obtain ⟨xl, xa, xb⟩ := x
        simp only at hxl hxa hxb c0 c1 c2
        subst hxl hxa hxb
        obtain ⟨hl0, hl1⟩ := letB_num hcc
        have hF := HF.out k _ gx (by show (1 : Nat) ≠ 0; omega)
        have hfs := Lib.hid (show fStep 0 F G (outs 0 F G rs k) ⟨⟨#[cc]⟩, 0, 0⟩ = F (letN ⟨#[cc]⟩) from rfl)
        have hln := Lib.hid (show ((letN ⟨#[cc]⟩ : Nat) : Int) = (cc.toNat : Int) - 97 by rw [letN_one]; omega)
        simp only at hF
        rw [hln.out] at hF
        generalize F (letN ⟨#[cc]⟩) = y at *
        have HF2 := Lib.hid hF; clear hF gx hcc
        go_wp2_with fail
        refine (isPair_any ⟨⟨#[cc]⟩, 0, 0⟩ false _ (decide_eq_false (show ¬ (1 : Nat) = 0 by omega))).mono ?_
        rintro e w1 ⟨rfl, hb1'⟩
        obtain ⟨d0, d1, d2⟩ := ((Blk.new wr _ _).next hb1').three
        have b1 := (hb.alloc hb.size _).trans (hb1'.mono (by have := hb.size; simp; omega))
        have own1 := Lib.hid (own_next (hown.out.alloc _) hb1')
        go_wp2_with fail
        refine calls_arg (b := (cc.toNat : Int) - 97) (by show ((cc.toNat : Int) - 97) % 256 = _; omega) ?_
        refine (HF2.out _ b1).mono ?_
        rintro e w2 ⟨rfl, hb2⟩
        have b2 := b1.trans (hb2.mono b1.size)
        have own2 := Lib.hid (own_next own1.out hb2)
        go_wp2_with
          (at_builtin
           refine wpList_push (w0 := w) rfl _ _ _ rfl w.heap.size 2 1 8 elem_int intE _ k c' (outs 0 F G rs k) rfl (own2.out.alloc _) w2.heap.size y #[.int .i64 y] 2 (0, 0) rfl (heap_alloc_new _ _) rfl rfl (by simp [intE, Value.oneCell']) (by omega) (by omega) (by unfold maxLen; omega) rfl (b2.alloc b2.size _) ?_
           intro A9 c9 w9 own9 hg9 hat9 hb9
           have O9 := Lib.hid own9; clear own9)
        go_roundw
        case rel =>
          refine ⟨k + 1, A9, c9, by go_num, rfl, by omega, Lib.hid ?_, hb9⟩
          rw [Hst.out, hfs.out]; exact O9.out
        case measure => simp [intOf]; omega
    · have hkn : k = n := by omega
      have Hall := Lib.hid (outs_all 0 F G rs k (by rw [hl.out]; omega))
      have Hol := Lib.hid (outs_len 0 F G rs k (by rw [hl.out]; omega))
      by_cases h0 : k = 0
      · subst h0
        have e0 := Lib.hid (show foldAll 0 F G z rs = [z] by unfold foldAll; rw [hl.out, if_pos hkn.symm])
        have e1 := Lib.hid (show outs 0 F G rs 0 = [] by unfold outs; simp [foldG])
        have own1 : wr.ownsRow w.heap.size 2 1 (.slice A' 0 c') 0 (([] : List Int).flatMap intE) := by rw [← e1.out]; exact hown.out
        have Own1 := Lib.hid own1; clear own1 hkn
        go_wp2_with
          (at_builtin
           refine wpList_push (w0 := w) rfl _ _ _ rfl w.heap.size 2 1 8 elem_int intE _ 0 c' [] rfl (Own1.out.alloc _) wr.heap.size z #[.int .i64 z] 2 (0, 0) rfl (heap_alloc_new _ _) rfl rfl (by simp [intE, Value.oneCell']) (by omega) (by omega) (by unfold maxLen; omega) rfl (hb.alloc hb.size _) ?_
           intro A9 c9 w9 own9 hg9 hat9 hb9
           have O9 := Lib.hid own9; clear own9)
        go_ret
        rw [e0.out]
        exact ⟨A9, c9, rfl, O9.out, hb9⟩
      · have e0 := Lib.hid (show foldAll 0 F G z rs = outs 0 F G rs k by unfold foldAll; rw [hl.out, if_neg (by omega), Hall.out])
        have h1 : ((k : Int) == 0) = false := by simp; omega
        clear h0 hkn
        go_wp2_with fail
        go_ret
        rw [e0.out]
        refine ⟨A', c', ret_slice Hol.out.symm, ?_, hb⟩
        rw [Hol.out]
        exact hown.out
end Go.Proofs.Ytajfjgemfnfakaa


/-
  The reference's small functions on letters and numbers.
-/
namespace Go.Proofs.Ytajfjgemfnfakaa
open Go.RowKit

theorem l00Max_any (a b : Int) (w : World) : Calls Try.prog 52 #[.int .i64 a, .int .i64 b] w (Ret (.int .i64 (max a b)) w) := by
  go_enter Try.func52, Try.ntmps52
  go_wp2
  all_goals
    go_ret
    exact ⟨ret_int (by omega), by (repeat first | exact Below.refl _ _ | assumption | refine Below.drew ?_ | refine Below.alloc ?_ (by first | exact Nat.le_refl _ | (simp; done) | omega | (simp; omega)) _ | refine Below.setCell ?_ (by first | exact Nat.le_refl _ | (simp; done) | omega | (simp; omega)) _)⟩
end Go.Proofs.Ytajfjgemfnfakaa


/-
  The depths of rules, in the program and in the reference.
-/
namespace Go.Proofs.Ytajfjgemfnfakaa
open Go.RowKit

section
variable {α : Type} {d : α} {F : Nat → α} {G : α → α → Fac → α} {rs : List Fac}
/-- what holds of all that is made of a grammar -/
theorem outs_inv (hwf : WF rs) (I : Nat → α → Prop) (mono : ∀ k x, I k x → I (k + 1) x) (hF : ∀ (k : Nat) (r : Fac), rs[k]? = some r → letT r.l = true → I (k + 1) (F (letN r.l)))
    (hG : ∀ (k : Nat) (r : Fac) (a b : α), rs[k]? = some r → I k a → I k b → I (k + 1) (G a b r)) : ∀ k, k ≤ rs.length → ∀ x ∈ outs d F G rs k, I k x := by
  intro k
  induction k with
  | zero => intro _ x hx; simp [outs, foldG] at hx
  | succ k ih =>
    intro hk x hx
    have gx : rs[k]? = some (rs[k]'(by omega)) := List.getElem?_eq_getElem _
    rw [outs_step d F G gx] at hx
    have hl := outs_len d F G rs k (by omega)
    rcases List.mem_append.1 hx with hx | hx
    · exact mono _ _ (ih (by omega) x hx)
    · simp only [List.mem_singleton] at hx
      subst hx
      unfold fStep
      rcases hwf k _ gx with ⟨h0, ha0, ha1, hb0, hb1⟩ | ⟨c, hc, hl', _⟩
      · rw [if_pos h0]
        refine hG k _ _ _ gx (ih (by omega) _ ?_) (ih (by omega) _ ?_)
        · rw [List.getD_eq_getElem?_getD, List.getElem?_eq_getElem (by omega)]; simp
        · rw [List.getD_eq_getElem?_getD, List.getElem?_eq_getElem (by omega)]; simp
      · have hl1 : letT (rs[k]'(by omega)).l = true := by rw [hl']; exact hc
        have hne : ¬ (rs[k]'(by omega)).l.size = 0 := by rw [hl']; show ¬ (1 : Nat) = 0; omega
        rw [if_neg hne]
        exact hF k _ gx hl1
theorem outs_getD (hwf : WF rs) (I : Nat → α → Prop) (mono : ∀ k x, I k x → I (k + 1) x) (hF : ∀ (k : Nat) (r : Fac), rs[k]? = some r → letT r.l = true → I (k + 1) (F (letN r.l)))
    (hG : ∀ (k : Nat) (r : Fac) (a b : α), rs[k]? = some r → I k a → I k b → I (k + 1) (G a b r)) {k : Nat} (hk : k ≤ rs.length) {i : Nat} (hi : i < k) : I k ((outs d F G rs k).getD i d) := by
  refine outs_inv (d := d) hwf I mono hF hG k hk _ ?_
  have hl := outs_len d F G rs k hk
  rw [List.getD_eq_getElem?_getD, List.getElem?_eq_getElem (by omega)]; simp
end

def depF (_ : Nat) : Int := 1
def depG (a b : Int) (_ : Fac) : Int := max a b + 1
/-- the depths of all rules -/
def depths (rs : List Fac) : List Int := foldG 0 depF depG rs []
theorem dep_bound {rs : List Fac} (hwf : WF rs) {k i : Nat} (hk : k ≤ rs.length) (hi : i < k) : 1 ≤ (outs 0 depF depG rs k).getD i 0 ∧ (outs 0 depF depG rs k).getD i 0 ≤ k := by
  refine outs_getD (d := 0) (F := depF) (G := depG) hwf (fun (k : Nat) (x : Int) => 1 ≤ x ∧ x ≤ k) (fun k x h => ⟨h.1, by omega⟩) (fun k r _ _ => by unfold depF; omega) (fun k r a b _ ha hb => ?_) hk hi
  unfold depG
  omega

theorem depths1_any (l : Int) (w : World) : Calls Try.prog 57 #[.int .i64 l] w (Ret (.int .i64 1) w) := by
  go_enter Try.func57, Try.ntmps57
  go_wp2
  go_ret
  exact ⟨rfl, Below.refl _ _⟩
theorem depths2_any (a b : Int) (r : Fac) (w : World) (ha : 1 ≤ a) (ha' : a ≤ 1048576) (hb : 1 ≤ b) (hb' : b ≤ 1048576) : Calls Try.prog 58 #[.int .i64 a, .int .i64 b, r.val] w (Ret (.int .i64 (max a b + 1)) w) := by
  unfold Fac.val
  go_enter Try.func58, Try.ntmps58
  go_wp2
  all_goals
    go_ret
    exact ⟨ret_int (by omega), by (repeat first | exact Below.refl _ _ | assumption | refine Below.drew ?_ | refine Below.alloc ?_ (by first | exact Nat.le_refl _ | (simp; done) | omega | (simp; omega)) _ | refine Below.setCell ?_ (by first | exact Nat.le_refl _ | (simp; done) | omega | (simp; omega)) _)⟩
set_option maxHeartbeats 400000 in
theorem depths_any (A : Option Addr) (n c : Nat) (rs : List Fac) (w : World) (hn : n ≤ 1048576) (hr : Rd w w.heap.size A n 3 Fac.cells rs) (hwf : WF rs) :
    Calls Try.prog 35 #[.agg #[.slice A n c]] w (RetNew w 2 1 intE (foldAll 0 depF depG 0 rs)) := by
  have hl := Lib.hid hr.len
  have hb0 : Below w.heap.size w (w.alloc (.cells #[.slice A n c] 26)) := by (repeat first | exact Below.refl _ _ | assumption | refine Below.drew ?_ | refine Below.alloc ?_ (by first | exact Nat.le_refl _ | (simp; done) | omega | (simp; omega)) _ | refine Below.setCell ?_ (by first | exact Nat.le_refl _ | (simp; done) | omega | (simp; omega)) _)
  have hc := foldI_any 57 58 (enterOk Try.func57 (by kernel_rfl) (by kernel_rfl)) (enterOk Try.func58 (by kernel_rfl) (by kernel_rfl)) #[] #[] depF depG 0 A n c rs _ hn (hr.next hb0) hwf
    (fun k r _ _ w' _ => by simpa [depF] using depths1_any _ w')
    (fun k r hx h0 w' _ => by
      have hk : k < rs.length := (List.getElem?_eq_some_iff.1 hx).1
      rcases hwf k r hx with ⟨_, a0, a1, b0, b1⟩ | ⟨cc, _, hl, _⟩
      · have ha := dep_bound hwf (k := k) (i := r.a.toNat) (by omega) (by omega)
        have hb := dep_bound hwf (k := k) (i := r.b.toNat) (by omega) (by omega)
        have := hl.out
        simpa [depG] using depths2_any ((outs 0 depF depG rs k).getD r.a.toNat 0) ((outs 0 depF depG rs k).getD r.b.toNat 0) r w' ha.1 (by omega) hb.1 (by omega)
      · rw [hl] at h0; exact absurd h0 (show ¬ (1 : Nat) = 0 by omega))
  have Hc := Lib.hid hc; clear hc
  go_enter Try.func35, Try.ntmps35
  go_wp2_with fail
  refine Hc.out.mono ?_
  rintro e w1 ⟨A', c', rfl, own1, hb1⟩
  have Own1 := Lib.hid own1; clear own1
  go_wp2_with fail
  go_ret
  exact ⟨A', c', rfl, Own1.out.mono hb0.size, hb0.trans (hb1.mono hb0.size)⟩
end Go.Proofs.Ytajfjgemfnfakaa


/-
  Is a grammar level: in the program and in the reference.
-/
namespace Go.Proofs.Ytajfjgemfnfakaa
open Go.RowKit

def islRule (ds : List Int) (r : Fac) : Bool := if r.l.size = 0 then inB (ds.getD r.a.toNat 0 - ds.getD r.b.toNat 0) (-1) 1 else true
def islAll (rs : List Fac) : Bool := rs.all (islRule (depths rs))
def lvTuple (rs : List Fac) : Value := if (gOk rs).isSome = true then .tuple #[.bool (islAll rs), .int .i64 0] else .tuple #[.bool false, .int .i64 1]
theorem depths_len (rs : List Fac) : (depths rs).length = rs.length := by unfold depths; rw [foldG_len]; simp
theorem depths_getD {rs : List Fac} (hwf : WF rs) {i : Nat} (hi : i < rs.length) : 1 ≤ (depths rs).getD i 0 ∧ (depths rs).getD i 0 ≤ rs.length := by
  have := dep_bound hwf (Nat.le_refl _) hi
  rwa [outs_all 0 depF depG rs rs.length (Nat.le_refl _)] at this
theorem all_drop {α : Type} {p : α → Bool} {xs : List α} {k : Nat} {x : α} (h : xs[k]? = some x) : (xs.drop k).all p = (p x && (xs.drop (k + 1)).all p) := by rw [drop_cons h]; rfl

end Go.Proofs.Ytajfjgemfnfakaa


/-
  The level grammar of a grammar: the same value of an associative law, level, not too long, not too deep. Plain.
-/
namespace Go.Proofs.Ytajfjgemfnfakaa

/-- what levelling keeps, rule by rule -/
structure LvK (rs : List Fac) (k : Nat) (st : LvS × List Int) : Prop where
  j : LvJ rs k st
  bal : Bal st.1
  val : ∀ (α : Type) (d : α) (F : Nat → α) (G : α → α → Fac → α), Mon G → ∀ i, i < k → fv d F G st.1 (st.2.getD i 0) = (full d F G rs).getD i d
  len : ∀ i : Nat, i < st.1.rs.length → fl st.1 (i : Int) ≤ 1000000000000000
theorem lvRule_let_val {α : Type} (d : α) (F : Nat → α) (G : α → α → Fac → α) {s : LvS} {r : Fac} (h0 : r.l.size ≠ 0) : fv d F G (lvRule s r).1 (lvRule s r).2 = F (letN r.l) := by
  unfold lvRule
  split
  · rename_i hm
    have hl := List.idxOf_lt_length_of_mem hm
    have hr : s.rs[s.rs.idxOf r]? = some r := by rw [List.getElem?_eq_getElem hl, List.getElem_idxOf hl]
    show (full d F G s.rs).getD ((s.rs.idxOf r : Nat) : Int).toNat d = _
    rw [Int.toNat_natCast]
    exact full_let d F G hr h0
  · show (full d F G (s.rs ++ [r])).getD ((s.rs.length : Nat) : Int).toNat d = _
    rw [Int.toNat_natCast, full_new, fStep, if_neg h0]
theorem lvRule_let_bal {s : LvS} (h : LvI s) (hB : Bal s) {r : Fac} (h0 : r.l.size ≠ 0) (ho : LvO s (lvRule s r) 1) : Bal (lvRule s r).1 := fun k x hk hx => by
  by_cases hlt : k < s.rs.length
  · obtain ⟨er, ed, e1, _⟩ := ho.ext
    have hk' : s.rs[k]? = some x := by rw [e1, List.getElem?_append_left hlt] at hk; exact hk
    have := hB k x hk' hx
    rcases h.wf k x hk' with ⟨_, a0, a1, b0, b1⟩ | ⟨c, _, hl, _⟩
    · rw [ho.d h ⟨a0, by omega⟩, ho.d h ⟨b0, by omega⟩]; exact this
    · rw [hl] at hx; exact absurd hx (show ¬ (1 : Nat) = 0 by omega)
  · exfalso
    unfold lvRule at hk
    split at hk
    · exact hlt (List.getElem?_eq_some_iff.1 hk).1
    · have hl : k < (s.rs ++ [r]).length := (List.getElem?_eq_some_iff.1 hk).1
      have e : k = s.rs.length := by simp at hl; omega
      have hk' : (s.rs ++ [r])[k]? = some x := hk
      rw [e, List.getElem?_append_right (Nat.le_refl _), Nat.sub_self] at hk'
      simp at hk'
      rw [hk'] at h0
      exact h0 hx
theorem lvRule_let_new {s : LvS} {r : Fac} (h0 : r.l.size ≠ 0) {B : Int} (hB : 1 ≤ B) : New s (lvRule s r).1 B := fun k hk hl => by
  have hv : fl (lvRule s r).1 (lvRule s r).2 = 1 := lvRule_let_val 0 lenF lenG h0
  have e : (k : Int) = (lvRule s r).2 := by
    unfold lvRule at hl ⊢
    split at hl
    · have hl' : k < s.rs.length := hl
      omega
    · rename_i hm
      rw [if_neg hm]
      show (k : Int) = (s.rs.length : Int)
      simp at hl
      omega
  rw [e, hv]; exact hB
theorem getD_app {l : List Int} {x : Int} {i : Nat} (h : i < l.length) : (l ++ [x]).getD i 0 = l.getD i 0 := by
  rw [List.getD_eq_getElem?_getD, List.getElem?_append_left h, ← List.getD_eq_getElem?_getD]
theorem getD_last {l : List Int} {x : Int} : (l ++ [x]).getD l.length 0 = x := by
  rw [List.getD_eq_getElem?_getD, List.getElem?_append_right (Nat.le_refl _), Nat.sub_self]; rfl
theorem LvK.next {rs : List Fac} {k : Nat} {st : LvS × List Int} {r : Fac} {t : LvS × Int} {g : Nat} (h : LvK rs k st) (hl : (lvOne st r).1.rs.length ≤ 400) (hr : rs[k]? = some r) (ht : lvOne st r = (t.1, st.2 ++ [t.2])) (ho : LvO st.1 t g)
    (hb : Bal t.1) (hv : ∀ (α : Type) (d : α) (F : Nat → α) (G : α → α → Fac → α), Mon G → fv d F G t.1 t.2 = (full d F G rs).getD k d) (hn : New st.1 t.1 1000000000000000) : LvK rs (k + 1) (lvOne st r) := by
  refine ⟨h.j.one hr hl ht ho, by rw [ht]; exact hb, fun α d F G hM i hi => ?_, fun i hi => ?_⟩
  · rw [ht]
    show fv d F G t.1 ((st.2 ++ [t.2]).getD i 0) = _
    have hp := h.j.pl
    by_cases hik : i < k
    · rw [getD_app (by omega), ← h.val α d F G hM i hik]
      have := h.j.at_ (j := (i : Int)) (by omega) (by omega)
      rw [Int.toNat_natCast] at this
      exact fv_old d F G ho this
    · obtain rfl : i = k := by omega
      rw [show (st.2 ++ [t.2]).getD i 0 = t.2 by rw [← hp]; exact getD_last]
      exact hv α d F G hM
  · rw [ht] at hi ⊢
    show fl t.1 (i : Int) ≤ _
    by_cases hlt : i < st.1.rs.length
    · have := fv_old 0 lenF lenG ho (k := (i : Int)) ⟨by omega, by omega⟩
      unfold fl
      rw [this]; exact h.len i hlt
    · exact hn i (by omega) hi
theorem LvK.step {rs : List Fac} {ls : List Int} (hwf : WF rs) (hls : gLens rs [] = some ls) {k : Nat} {st : LvS × List Int} {r : Fac} (h : LvK rs k st) (hr : rs[k]? = some r) (hl : (lvOne st r).1.rs.length ≤ 400) : LvK rs (k + 1) (lvOne st r) := by
  have hk := (List.getElem?_eq_some_iff.1 hr).1
  by_cases h0 : r.l.size = 0
  · rcases hwf k r hr with ⟨_, a0, a1, b0, b1⟩ | ⟨c, _, hlc, _⟩
    · have ht : lvOne st r = ((lvLevel 800 st.1 (st.2.getD r.a.toNat 0) (st.2.getD r.b.toNat 0)).1, st.2 ++ [(lvLevel 800 st.1 (st.2.getD r.a.toNat 0) (st.2.getD r.b.toNat 0)).2]) := by unfold lvOne; rw [if_pos h0]
      have ia := h.j.at_ a0 a1
      have ib := h.j.at_ b0 b1
      have hlen := h.j.len
      have hf : st.2.getD r.a.toNat 0 + st.2.getD r.b.toNat 0 ≤ ((800 : Nat) : Int) := by have := ia.2; have := ib.2; omega
      have ho := lvLevel_do 800 h.j.i ia ib hf
      have hval : ∀ (α : Type) (d : α) (F : Nat → α) (G : α → α → Fac → α), Mon G → fv d F G (lvLevel 800 st.1 (st.2.getD r.a.toNat 0) (st.2.getD r.b.toNat 0)).1 (lvLevel 800 st.1 (st.2.getD r.a.toNat 0) (st.2.getD r.b.toNat 0)).2 = (full d F G rs).getD k d := fun α d F G hM => by
        rw [lvLevel_val d F G hM 800 h.j.i ia ib hf r, h.val α d F G hM r.a.toNat (by omega), h.val α d F G hM r.b.toNat (by omega), full_pair d F G hwf hr h0]
      refine h.next hl hr ht ho (lvLevel_bal 800 h.j.i h.bal ia ib hf).1 hval (lvLevel_new 800 h.j.i ia ib hf ?_)
      have e1 : fl st.1 (st.2.getD r.a.toNat 0) = (full 0 lenF lenG rs).getD r.a.toNat 0 := h.val Int 0 lenF lenG lenMon r.a.toNat (by omega)
      have e2 : fl st.1 (st.2.getD r.b.toNat 0) = (full 0 lenF lenG rs).getD r.b.toNat 0 := h.val Int 0 lenF lenG lenMon r.b.toNat (by omega)
      have e3 := full_pair 0 lenF lenG hwf hr h0
      have e4 := (lens_bound hls hk).2
      rw [gLens_fold rs [] ls hls] at e4
      have e4' : (full 0 lenF lenG rs).getD k 0 ≤ 1000000000000000 := e4
      rw [e1, e2]
      rw [e3] at e4'
      exact e4'
    · rw [hlc] at h0; exact absurd h0 (show ¬ (1 : Nat) = 0 by omega)
  · have hro : RuleOk st.1 r := by
      rcases hwf k r hr with ⟨q, _⟩ | q
      · exact absurd q h0
      · exact .inr q
    have ht : lvOne st r = ((lvRule st.1 r).1, st.2 ++ [(lvRule st.1 r).2]) := by unfold lvOne; rw [if_neg h0]
    have ho := lvRule_do h.j.i hro
    exact h.next hl hr ht ho (lvRule_let_bal h.j.i h.bal h0 ho) (fun α d F G hM => by rw [lvRule_let_val d F G h0, full_let d F G hr h0]) (lvRule_let_new h0 (by omega))
theorem LvK.first (rs : List Fac) : LvK rs 0 lv0 := ⟨LvJ.first rs, fun k r h => by simp [lv0] at h, fun _ _ _ _ _ i hi => by omega, fun i hi => by simp [lv0] at hi⟩
theorem lvk_all {rs : List Fac} {ls : List Int} (hwf : WF rs) (hls : gLens rs [] = some ls) : ∀ (n k : Nat) (st st' : LvS × List Int), k + n = rs.length → LvK rs k st → lvGo (rs.drop k) st = some st' → LvK rs rs.length st'
  | 0, k, st, st', hk, h, hg => by
    rw [List.drop_of_length_le (by omega)] at hg
    unfold lvGo at hg
    injection hg with hg
    obtain rfl : k = rs.length := by omega
    rw [← hg]; exact h
  | n + 1, k, st, st', hk, h, hg => by
    have hlt : k < rs.length := by omega
    have hr : rs[k]? = some rs[k] := List.getElem?_eq_getElem hlt
    rw [drop_cons hr] at hg
    unfold lvGo at hg
    split at hg
    · cases hg
    · rename_i hc
      exact lvk_all hwf hls n (k + 1) _ st' (by omega) (h.step hwf hls hr (by omega)) hg
theorem outT_le (used : List Bool) : ∀ (ks : List Fac) (i : Nat) (out : List Fac) (at_ : List Int), (outT used i ks out at_).length ≤ out.length + ks.length
  | [], i, out, at_ => by simp [outT]
  | r :: ks, i, out, at_ => by
    rw [outT]
    split
    · have := outT_le used ks (i + 1) (out ++ [trR at_ r]) (at_.set i (out.length : Int))
      simp only [List.length_append, List.length_singleton] at this
      simp only [List.length_cons]; omega
    · have := outT_le used ks (i + 1) out at_
      simp only [List.length_cons]; omega
theorem trK_le : ∀ (rs kept : List Fac) (same : List Int), (trK rs kept same).1.length = kept.length + rs.length
  | [], kept, same => by simp [trK]
  | r :: rs, kept, same => by
    rw [trK, trK_le rs]; simp; omega
theorem trimL_leB (rs : List Fac) : (trimL rs).length ≤ rs.length := by
  unfold trimL
  split
  · simp
  · have h1 := outT_le (useT (trK rs [] []).1 rs.length (use0 rs.length (trK rs [] []).2)) (trK rs [] []).1 0 [] (List.replicate rs.length 0)
    have h2 := trK_le rs [] []
    simp at h1 h2
    omega
/-- depth and balance at once -/
def bF (_ : Nat) : Int × Bool := (1, true)
def bG (x y : Int × Bool) (_ : Fac) : Int × Bool := (max x.1 y.1 + 1, x.2 && y.2 && decide (-1 ≤ x.1 - y.1 ∧ x.1 - y.1 ≤ 1))
theorem bG_one {rs : List Fac} (hwf : WF rs) {k : Nat} (hk : k < rs.length) : ((full (0, false) bF bG rs).getD k (0, false)).1 = (depths rs).getD k 0 :=
  full_ind (0, false) bF bG hwf (fun k v => v.1 = (depths rs).getD k 0)
    (fun k r hr hl => by
      have h0 : r.l.size ≠ 0 := by obtain ⟨c, _, e⟩ := letT_one hl; rw [e]; show (1 : Nat) ≠ 0; omega
      have := full_let 0 depF depG hr h0
      show (1 : Int) = (full 0 depF depG rs).getD k 0
      rw [this]; rfl)
    (fun k r x y hr h0 _ _ _ _ hx hy => by
      have := full_pair 0 depF depG hwf hr h0
      show max x.1 y.1 + 1 = (full 0 depF depG rs).getD k 0
      rw [this, hx, hy]; rfl) k hk
/-- the least length of a level word of a depth -/
def fbA : Nat → Int
  | 0 => 1
  | 1 => 2
  | n + 2 => fbA (n + 1) + fbA n
theorem fbA_pos : ∀ n, 1 ≤ fbA n ∧ fbA n ≤ fbA (n + 1) ∧ fbA (n + 1) ≤ 2 * fbA n
  | 0 => by decide
  | 1 => by decide
  | n + 2 => by
    have h1 := fbA_pos n
    have h2 := fbA_pos (n + 1)
    have e1 : fbA (n + 2) = fbA (n + 1) + fbA n := rfl
    have e2 : fbA (n + 2 + 1) = fbA (n + 2) + fbA (n + 1) := rfl
    omega
theorem fbA_mono {m n : Nat} (h : m ≤ n) : fbA m ≤ fbA n := by
  obtain ⟨k, rfl⟩ : ∃ k, n = m + k := ⟨n - m, by omega⟩
  clear h
  induction k with
  | zero => exact Int.le_refl _
  | succ k ih => exact Int.le_trans ih (fbA_pos (m + k)).2.1
theorem fbA_join {a b : Nat} (h1 : a ≤ b + 1) (h2 : b ≤ a + 1) : fbA (max a b + 1) ≤ fbA a + fbA b := by
  rcases Nat.le_total a b with h | h
  · rw [Nat.max_eq_right h]
    cases b with
    | zero => obtain rfl : a = 0 := by omega
              decide
    | succ b =>
      have := fbA_mono (show b ≤ a by omega)
      have e : fbA (b + 1 + 1) = fbA (b + 1) + fbA b := rfl
      omega
  · rw [Nat.max_eq_left h]
    cases a with
    | zero => obtain rfl : b = 0 := by omega
              decide
    | succ a =>
      have := fbA_mono (show a ≤ b by omega)
      have e : fbA (a + 1 + 1) = fbA (a + 1) + fbA a := rfl
      omega
theorem level_fib {rs : List Fac} (hwf : WF rs) (hb : islAll rs = true) : ∀ k, k < rs.length → 1 ≤ (depths rs).getD k 0 ∧ fbA ((depths rs).getD k 0 - 1).toNat ≤ (full 0 lenF lenG rs).getD k 0 := by
  intro k hk
  refine full_ind 0 lenF lenG hwf (fun k v => 1 ≤ (depths rs).getD k 0 ∧ fbA ((depths rs).getD k 0 - 1).toNat ≤ v) (fun k r hr hl => ?_) (fun k r x y hr h0 a0 a1 b0 b1 hx hy => ?_) k hk
  · have h0 : r.l.size ≠ 0 := by obtain ⟨c, _, e⟩ := letT_one hl; rw [e]; show (1 : Nat) ≠ 0; omega
    have h1 : (full 0 depF depG rs).getD k 0 = 1 := full_let 0 depF depG hr h0
    have h2 : (depths rs).getD k 0 = 1 := h1
    rw [h2]
    exact ⟨by omega, by show fbA 0 ≤ 1; decide⟩
  · have h1 : (full 0 depF depG rs).getD k 0 = max ((depths rs).getD r.a.toNat 0) ((depths rs).getD r.b.toNat 0) + 1 := full_pair 0 depF depG hwf hr h0
    have h2 : (depths rs).getD k 0 = max ((depths rs).getD r.a.toNat 0) ((depths rs).getD r.b.toNat 0) + 1 := h1
    have hl : islRule (depths rs) r = true := by
      unfold islAll at hb
      exact List.all_eq_true.1 hb r (List.mem_of_getElem? hr)
    unfold islRule at hl
    rw [if_pos h0] at hl
    have hl2 : -1 ≤ (depths rs).getD r.a.toNat 0 - (depths rs).getD r.b.toNat 0 ∧ (depths rs).getD r.a.toNat 0 - (depths rs).getD r.b.toNat 0 ≤ 1 := by
      unfold inB at hl
      simpa using hl
    generalize (depths rs).getD r.a.toNat 0 = da at *
    generalize (depths rs).getD r.b.toNat 0 = db at *
    rw [h2]
    refine ⟨by omega, ?_⟩
    have hj := fbA_join (a := (da - 1).toNat) (b := (db - 1).toNat) (by omega) (by omega)
    have e : (max da db + 1 - 1).toNat = max (da - 1).toNat (db - 1).toNat + 1 := by omega
    rw [e]
    unfold lenG
    have := hx.2
    have := hy.2
    omega
/-- what the level grammar is -/
structure LevOk (rs M : List Fac) : Prop where
  wf : WF M
  ok : (gOk M).isSome = true
  len : M.length ≤ 400
  pos : 0 < rs.length ↔ 0 < M.length
  val : ∀ (α : Type) (d : α) (F : Nat → α) (G : α → α → Fac → α), Mon G → (full d F G M).getD (M.length - 1) d = (full d F G rs).getD (rs.length - 1) d
  lev : islAll M = true
theorem levF_ok {rs : List Fac} {ls : List Int} (hls : gOk rs = some ls) (hc : levC rs = 0) : LevOk rs (levF rs) := by
  have hgl := (gOk_lens hls).1
  have hwf := wf_of hgl
  unfold levC lvE at hc
  rw [hls] at hc
  simp only [Option.isSome_some, if_true] at hc
  have hM : levF rs = lvT rs := by unfold levF; rw [hls]; rfl
  rw [hM]
  unfold lvT
  rcases ha : lvAll rs with _ | st
  · rw [ha] at hc; simp at hc
  · have hk := lvk_all hwf hgl rs.length 0 lv0 st (by omega) (LvK.first rs) (by rw [List.drop_zero]; exact ha)
    show LevOk rs (if st.2 = [] then [] else trimL (st.1.rs.take (lastI st.2 + 1).toNat))
    by_cases he : st.2 = []
    · rw [if_pos he]
      have h0 : rs.length = 0 := by rw [← hk.j.pl, he]; rfl
      have hr : rs = [] := List.eq_nil_of_length_eq_zero h0
      subst hr
      exact ⟨hwf, by rw [hls]; rfl, by simp, Iff.rfl, fun _ _ _ _ _ => rfl, rfl⟩
    · rw [if_neg he]
      have hpl := hk.j.pl
      have h0 : 0 < rs.length := by
        rw [← hpl]
        exact List.length_pos_iff.2 he
      have ip := hk.j.at_ (j := ((rs.length - 1 : Nat) : Int)) (by omega) (by omega)
      rw [Int.toNat_natCast] at ip
      have hlast : lastI st.2 = st.2.getD (rs.length - 1) 0 := by unfold lastI; rw [hpl]
      rw [← hlast] at ip
      obtain ⟨p, hp⟩ : ∃ p : Nat, lastI st.2 = p := ⟨(lastI st.2).toNat, by have := ip.1; omega⟩
      rw [hp] at ip ⊢
      have hps : p < st.1.rs.length := by have := ip.2; omega
      rw [show ((p : Int) + 1).toNat = p + 1 by omega]
      have hwt := wf_take hk.j.i.wf (p + 1)
      have hlt : (st.1.rs.take (p + 1)).length = p + 1 := by rw [List.length_take]; omega
      have hfull : ∀ (α : Type) (d : α) (F : Nat → α) (G : α → α → Fac → α) (i : Nat), i < p + 1 → (full d F G (st.1.rs.take (p + 1))).getD i d = fv d F G st.1 (i : Int) := fun α d F G i hi => by
        have := full_app d F G (st.1.rs.take (p + 1)) (p := i) (by rw [hlt]; exact hi) (st.1.rs.drop (p + 1))
        rw [List.take_append_drop] at this
        unfold fv
        rw [Int.toNat_natCast]
        exact this.symm
      have hlen : ∀ k, k < (st.1.rs.take (p + 1)).length → (full 0 lenF lenG (st.1.rs.take (p + 1))).getD k 0 ≤ 1000000000000000 := fun k hk2 => by
        rw [hlt] at hk2
        rw [hfull Int 0 lenF lenG k hk2]
        exact hk.len k (by omega)
      have hbal : ∀ k, k < (st.1.rs.take (p + 1)).length → (full (0, false) bF bG (st.1.rs.take (p + 1))).getD k (0, false) = (lvD st.1 (k : Int), true) := by
        refine full_ind (0, false) bF bG hwt (fun k v => v = (lvD st.1 (k : Int), true)) (fun k r hr hl => ?_) (fun k r x y hr hr0 a0 a1 b0 b1 hx hy => ?_)
        · have hr' : st.1.rs[k]? = some r := by
            rw [List.getElem?_take] at hr
            split at hr
            · exact hr
            · cases hr
          have hd := hk.j.i.dep k r hr'
          have hz : r.l.size ≠ 0 := by obtain ⟨c, _, e⟩ := letT_one hl; rw [e]; show (1 : Nat) ≠ 0; omega
          unfold lvDep at hd
          rw [if_neg hz] at hd
          rw [hd]; rfl
        · have hr' : st.1.rs[k]? = some r := by
            rw [List.getElem?_take] at hr
            split at hr
            · exact hr
            · cases hr
          have hd := hk.j.i.dep k r hr'
          have hb := hk.bal k r hr' hr0
          unfold lvDep at hd
          rw [if_pos hr0] at hd
          rw [hx, hy, hd]
          unfold bG
          rw [show ((r.a.toNat : Nat) : Int) = r.a by omega, show ((r.b.toNat : Nat) : Int) = r.b by omega]
          simp [hb.1, hb.2]
      obtain ⟨m1, m2, _, m4⟩ := trim_val (0, false) bF bG (fun _ _ _ _ => rfl) hwt (by omega)
      have hml : (trimL (st.1.rs.take (p + 1))).length ≤ 400 := by
        have h1 := trimL_leB (st.1.rs.take (p + 1))
        have h2 := hk.j.len
        rw [hlt] at h1
        omega
      refine ⟨m1, trim_ok hwt hlen hml, hml, ⟨fun _ => m2, fun _ => h0⟩, fun α d F G hG => ?_, ?_⟩
      · obtain ⟨_, _, v3, _⟩ := trim_val d F G (fun a b r r' => hG.irr a b r r') hwt (by omega)
        rw [v3, hlt, Nat.add_sub_cancel, hfull α d F G p (by omega), ← hk.val α d F G hG (rs.length - 1) (by omega), ← hlast, hp]
      · unfold islAll
        rw [List.all_eq_true]
        intro r hr
        obtain ⟨q, hq, hqe⟩ := List.getElem_of_mem hr
        have hr? : (trimL (st.1.rs.take (p + 1)))[q]? = some r := by rw [List.getElem?_eq_getElem hq, hqe]
        unfold islRule
        split
        · rename_i hr0
          obtain ⟨jx, hj, hv⟩ := m4 q hq
          rw [hbal jx hj] at hv
          have hf := full_pair (0, false) bF bG m1 hr? hr0
          rw [hv] at hf
          have hf2 := congrArg Prod.snd hf
          rcases m1 q r hr? with ⟨_, a0, a1, b0, b1⟩ | ⟨c, _, hlc, _⟩
          · have ea := bG_one m1 (k := r.a.toNat) (by omega)
            have eb := bG_one m1 (k := r.b.toNat) (by omega)
            rw [← ea, ← eb]
            clear ea eb hv
            generalize (full (0, false) bF bG (trimL (st.1.rs.take (p + 1)))).getD r.a.toNat (0, false) = u at *
            generalize (full (0, false) bF bG (trimL (st.1.rs.take (p + 1)))).getD r.b.toNat (0, false) = v at *
            have hf3 : (u.2 && v.2 && decide (-1 ≤ u.1 - v.1 ∧ u.1 - v.1 ≤ 1)) = true := hf2.symm
            simp only [Bool.and_eq_true, decide_eq_true_eq] at hf3
            unfold inB
            simpa using hf3.2
          · rw [hlc] at hr0; exact absurd hr0 (show ¬ (1 : Nat) = 0 by omega)
        · rfl
end Go.Proofs.Ytajfjgemfnfakaa


/-
  The field of the prints: products and sums modulo 2^61 - 1, in the program.
-/
namespace Go.Proofs.Ytajfjgemfnfakaa
open Go.RowKit

abbrev P61 : Nat := 2305843009213693951
def mulM (a b : Nat) : Nat := a * b % P61
def addM (a b : Nat) : Nat := (a + b) % P61
theorem mulM_lt (a b : Nat) : mulM a b < P61 := Nat.mod_lt _ (by decide)
theorem addM_lt (a b : Nat) : addM a b < P61 := Nat.mod_lt _ (by decide)
theorem or_low {l h : Nat} (hl : l < 8) : l ||| (h * 8) = h * 8 + l := by
  have := Nat.two_pow_add_eq_or_of_lt (i := 3) (b := l) (by simpa using hl) h
  rw [Nat.or_comm]
  rw [show (2 : Nat) ^ 3 = 8 from rfl, Nat.mul_comm 8 h] at this
  exact this.symm
set_option maxRecDepth 100000 in
theorem addField_any (a b : Nat) (w : World) (ha : a < P61) (hb : b < P61) : Calls Try.prog 74 #[.int .u64 a, .int .u64 b] w (Ret (.int .u64 (addM a b)) w) := by
  have ha' : a < 2305843009213693951 := ha
  have hb' : b < 2305843009213693951 := hb
  clear ha hb
  have u1 : IntKind.u64.wrap ((a : Int) + (b : Int)) = (a : Int) + (b : Int) := by rw [IntKind.wrap_u64]; omega
  have ed : addM a b = (a + b) % 2305843009213693951 := rfl
  by_cases h : 2305843009213693951 ≤ a + b
  · have e : ((addM a b : Nat) : Int) = (a : Int) + (b : Int) - 2305843009213693951 := by rw [ed]; omega
    have u2 : IntKind.u64.wrap ((a : Int) + (b : Int) - 2305843009213693951) = (a : Int) + (b : Int) - 2305843009213693951 := by rw [IntKind.wrap_u64]; omega
    have g : (2305843009213693951 : Int) ≤ (a : Int) + (b : Int) := by omega
    rw [e]
    clear ed e h
    go_enter Try.func74, Try.ntmps74
    go_wp2_with fail
    go_ret
    exact ⟨rfl, Below.refl _ _⟩
  · have e : ((addM a b : Nat) : Int) = (a : Int) + (b : Int) := by rw [ed]; omega
    have g : ¬ (2305843009213693951 : Int) ≤ (a : Int) + (b : Int) := by omega
    rw [e]
    clear ed e h
    go_enter Try.func74, Try.ntmps74
    go_wp2_with fail
    go_ret
    exact ⟨rfl, Below.refl _ _⟩
set_option maxRecDepth 100000 in
theorem mulField_any (a b : Nat) (w : World) (ha : a < P61) (hb : b < P61) : Calls Try.prog 73 #[.int .u64 a, .int .u64 b] w (Ret (.int .u64 (mulM a b)) w) := by
  have ha' : a < 2305843009213693951 := ha
  have hb' : b < 2305843009213693951 := hb
  clear ha hb
  have hM := fun W => Try.bits_Mul64 a b (by omega) (by omega) W
  obtain ⟨h, hh⟩ : ∃ h, a * b / 18446744073709551616 = h := ⟨_, rfl⟩
  obtain ⟨l, hl⟩ : ∃ l, a * b % 18446744073709551616 = l := ⟨_, rfl⟩
  obtain ⟨R, hR⟩ : ∃ R, mulM a b = R := ⟨_, rfl⟩
  have hab : a * b = h * 18446744073709551616 + l := by rw [← hh, ← hl]; omega
  have hab2 : a * b ≤ 2305843009213693950 * 2305843009213693950 := Nat.mul_le_mul (by omega) (by omega)
  have hl2 : l < 18446744073709551616 := by rw [← hl]; exact Nat.mod_lt _ (by decide)
  have hh2 : h < 288230376151711744 := by omega
  obtain ⟨lo, hlo⟩ : ∃ lo, l % 2305843009213693952 = lo := ⟨_, rfl⟩
  obtain ⟨hi, hhi⟩ : ∃ hi, l / 2305843009213693952 = hi := ⟨_, rfl⟩
  have hi8 : hi < 8 := by omega
  have f1 : bits .and .u64 (l : Int) 2305843009213693951 = (lo : Int) := by
    have h1 := bits_and_u64_nat l 2305843009213693951 hl2 (by omega)
    have e : l &&& 2305843009213693951 = l % 2305843009213693952 := Nat.and_two_pow_sub_one_eq_mod l 61
    rw [e, hlo] at h1
    exact h1
  have f2 : (l : Int) / 2305843009213693952 = (hi : Int) := by omega
  have f3 : IntKind.u64.wrap ((h : Int) * 8) = (h : Int) * 8 := by rw [IntKind.wrap_u64]; omega
  obtain ⟨O, hO⟩ : ∃ O, h * 8 + hi = O := ⟨_, rfl⟩
  have f4 : bits .or .u64 (hi : Int) ((h : Int) * 8) = (O : Int) := by
    have h1 := bits_or_u64_nat hi (h * 8) (by omega) (by omega)
    rw [or_low hi8, hO] at h1
    exact h1
  obtain ⟨S, hS⟩ : ∃ S, lo + O = S := ⟨_, rfl⟩
  have f5 : IntKind.u64.wrap ((lo : Int) + (O : Int)) = (S : Int) := by rw [IntKind.wrap_u64]; omega
  obtain ⟨S1, hS1⟩ : ∃ S1, S % 2305843009213693952 = S1 := ⟨_, rfl⟩
  obtain ⟨S2, hS2⟩ : ∃ S2, S / 2305843009213693952 = S2 := ⟨_, rfl⟩
  have f6 : bits .and .u64 (S : Int) 2305843009213693951 = (S1 : Int) := by
    have h1 := bits_and_u64_nat S 2305843009213693951 (by omega) (by omega)
    have e : S &&& 2305843009213693951 = S % 2305843009213693952 := Nat.and_two_pow_sub_one_eq_mod S 61
    rw [e, hS1] at h1
    exact h1
  have f7 : (S : Int) / 2305843009213693952 = (S2 : Int) := by omega
  obtain ⟨U, hU⟩ : ∃ U, S1 + S2 = U := ⟨_, rfl⟩
  have f8 : IntKind.u64.wrap ((S1 : Int) + (S2 : Int)) = (U : Int) := by rw [IntKind.wrap_u64]; omega
  have hUp : U ≤ 2305843009213693960 := by omega
  rw [hR]
  have HR2 := Lib.hid (show (U < 2305843009213693951 → R = U) ∧ (2305843009213693951 ≤ U → R + 2305843009213693951 = U) by
    have e1 : R = (h * 18446744073709551616 + l) % 2305843009213693951 := by rw [← hR, ← hab]; rfl
    omega)
  clear hR hab hab2 hlo hhi hl2 hh2 ha' hb' hO hS hS1 hS2 hU hi8
  go_enter Try.func73, Try.ntmps73
  go_wp2_with fail
  refine (hM w).mono ?_
  rintro e w1 ⟨rfl, rfl⟩
  rw [hh, hl]
  clear hM hh hl
  by_cases hc : 2305843009213693951 ≤ U
  · have g1 : (2305843009213693951 : Int) ≤ (U : Int) := by omega
    have hr := HR2.out.2 hc
    have f9 : IntKind.u64.wrap ((U : Int) - 2305843009213693951) = (R : Int) := by rw [IntKind.wrap_u64]; omega
    clear HR2 hc hr
    go_wp2_with fail
    go_ret
    exact ⟨rfl, Below.refl _ _⟩
  · have hr := HR2.out.1 (by omega)
    obtain ⟨V, hV⟩ : ∃ V : Int, (U : Int) = V := ⟨_, rfl⟩
    have hRV : (R : Int) = V := by omega
    have g1 : ¬ (2305843009213693951 : Int) ≤ V := by omega
    have HRV := Lib.hid hRV
    rw [hV] at f8
    clear HR2 hc hr hRV hV hUp
    go_wp2_with fail
    go_ret
    exact ⟨by rw [HRV.out]; rfl, Below.refl _ _⟩
end Go.Proofs.Ytajfjgemfnfakaa


/-
  A region that draws its order: quiet operations ahead, in an order of ours, and a tail that waits for all of them.
-/
namespace Go.Proofs.Ytajfjgemfnfakaa
open Go

section
variable {P : Program} {ops : Array Oper} {md : Region.Mode} {C : World → Prop}

/-- what an operation waits for -/
def depsT (md : Region.Mode) (ops : Array Oper) (j : Nat) : List Nat :=
  match ops[j]? with
  | some o => (o.after.toList.filter fun e => Region.binds md e).map (·.on)
  | none => []
def reachT (md : Region.Mode) (ops : Array Oper) : Nat → List Nat → List Nat
  | 0, s => s
  | k + 1, s => reachT md ops k (s ++ (s.flatMap (depsT md ops)).filter fun x => !s.contains x).eraseDups
/-- every operation that is not ahead waits for all that are -/
def waitB (md : Region.Mode) (ops : Array Oper) (hd : List Nat) : Bool :=
  (List.range ops.size).all fun t => hd.contains t || hd.all fun i => (reachT md ops ops.size [t]).contains i
def seqT (md : Region.Mode) (ops : Array Oper) : List Nat → Array Bool → Bool
  | [], listed => (Region.ready md ops listed).isEmpty
  | t :: tl, listed => decide (Region.ready md ops listed = [t]) && seqT md ops tl (listed.setIfInBounds t true)
def headT (md : Region.Mode) (ops : Array Oper) (tl : List Nat) : List Nat → Array Bool → Bool
  | [], listed => seqT md ops tl listed
  | i :: hd, listed => (Region.ready md ops listed).contains i && Region.free md ops listed i && headT md ops tl hd (listed.setIfInBounds i true)
def tailB (md : Region.Mode) (ops : Array Oper) (hd tl : List Nat) : Bool :=
  Region.noSelect ops && waitB md ops hd && headT md ops tl hd (Array.replicate ops.size false) && decide (hd.length + tl.length = ops.size)

structure InvT (md : Region.Mode) (ops : Array Oper) (listed : Array Bool) : Prop where
  size : listed.size = ops.size
  closed : ∀ j oj, ops[j]? = some oj → listed.getD j false = true → ∀ e ∈ oj.after, Region.binds md e = true → listed.getD e.on false = true
theorem InvT.set {i : Nat} {listed : Array Bool} (inv : InvT md ops listed) (hi : i ∈ Region.ready md ops listed) : InvT md ops (listed.setIfInBounds i true) := by
  obtain ⟨_, oi, hoi, hall⟩ := mem_ready.1 hi
  refine ⟨by simp [inv.size], fun j oj hj hl e he hb => ?_⟩
  by_cases hij : i = j
  · subst hij
    have : oj = oi := Option.some.inj (hj.symm.trans hoi)
    subst this
    exact getD_set_true (hall e he hb)
  · rw [getD_set_ne false hij] at hl
    exact getD_set_true (inv.closed j oj hj hl e he hb)
theorem reachT_in {listed : Array Bool} (inv : InvT md ops listed) {t : Nat} (hr : t ∈ Region.ready md ops listed) : ∀ (k : Nat) (s : List Nat), (∀ x ∈ s, x = t ∨ listed.getD x false = true) → ∀ x ∈ reachT md ops k s, x = t ∨ listed.getD x false = true
  | 0, s, h => h
  | k + 1, s, h => by
    refine reachT_in inv hr k _ fun x hx => ?_
    rw [List.mem_eraseDups] at hx
    rcases List.mem_append.1 hx with hx | hx
    · exact h x hx
    · have hx := (List.mem_filter.1 hx).1
      obtain ⟨y, hy, hxy⟩ := List.mem_flatMap.1 hx
      unfold depsT at hxy
      split at hxy
      · rename_i o ho
        obtain ⟨e, he, rfl⟩ := List.mem_map.1 hxy
        rw [List.mem_filter] at he
        have he1 : e ∈ o.after := by simpa using he.1
        rcases h y hy with rfl | hl
        · obtain ⟨_, ot, hot, hall⟩ := mem_ready.1 hr
          have : o = ot := Option.some.inj (ho.symm.trans hot)
          subst this
          exact .inr (hall e he1 he.2)
        · exact .inr (inv.closed y o ho hl e he1 he.2)
      · simp at hxy
theorem waitT {hd : List Nat} {listed : Array Bool} (hw : waitB md ops hd = true) (inv : InvT md ops listed) {i t : Nat} (hi : i ∈ hd) (hun : listed.getD i true = false) (ht : t ∈ Region.ready md ops listed) : t ∈ hd := by
  obtain ⟨_, ot, hot, _⟩ := mem_ready.1 ht
  have htlt : t < ops.size := (Array.getElem?_eq_some_iff.1 hot).1
  have h1 := List.all_eq_true.1 hw t (List.mem_range.2 htlt)
  simp only [Bool.or_eq_true, List.contains_iff_mem] at h1
  rcases h1 with h1 | h1
  · exact h1
  · have h2 := List.all_eq_true.1 h1 i hi
    have h3 : i ∈ reachT md ops ops.size [t] := by simpa using h2
    rcases reachT_in inv ht _ [t] (fun x hx => .inl (by simpa using hx)) i h3 with rfl | h4
    · exact hi
    · rw [getD_both hun] at h4; cases h4

/-- Whatever order is picked: the operations ahead come first. -/
def wpAnyT (P : Program) (md : Region.Mode) (ops : Array Oper) (C : World → Prop) (hd : List Nat) (L : Array Bool → Act → Prop) : Nat → Array Bool → Act → Prop
  | 0, listed, a => L listed a
  | f + 1, listed, a => Region.ready md ops listed ≠ [] ∧ ∀ i ∈ Region.ready md ops listed, i ∈ hd ∧ qOp P ops C i (wpAnyT P md ops C hd L f (listed.setIfInBounds i true)) a
theorem wpAny_of_headT {hd : List Nat} {g : Nat} {L : Array Bool → Act → Prop} {Q' : Exit → Act → World → Prop} (hL : ∀ listed a w, C w → L listed a → wpAny P md ops Q' g listed a w) :
    ∀ (f : Nat) (listed : Array Bool) (a : Act) (w : World), C w → wpAnyT P md ops C hd L f listed a → wpAny P md ops Q' (f + g) listed a w
  | 0, listed, a, w, hw, h => by rw [Nat.zero_add]; exact hL _ _ _ hw h
  | f + 1, listed, a, w, hw, h => by
    rw [show f + 1 + g = (f + g) + 1 by omega]
    exact ⟨fun h0 => absurd h0 h.1, fun i hi => wpOp_of_qOp hw (fun a' w' hw' => wpAny_of_headT hL f _ a' w' hw') (h.2 i hi).2⟩
theorem wpAnyT_first {hd : List Nat} {i : Nat} {oi : Oper} {v : Value} {L : Array Bool → Act → Prop} (hi : ops[i]? = some oi) (hsel : ∀ (j : Nat) (o : Oper) cs b, ops[j]? = some o → o.op ≠ .select cs b)
    (hw : waitB md ops hd = true) (hin : i ∈ hd) (hdone : ∀ listed a, L listed a → ∀ j ∈ Region.ready md ops listed, j ∉ hd) :
    ∀ (f : Nat) (listed : Array Bool) (a : Act), InvT md ops listed →
      (∀ j oj, ops[j]? = some oj → j ≠ i → listed.getD j true = false → (∀ e ∈ oj.after, Region.binds md e = true → e.on ≠ i) → oi.apart ops oj = true) →
      i ∈ Region.ready md ops listed → YieldsIn P ops C oi v a →
      wpAnyT P md ops C hd L f (listed.setIfInBounds i true) (a.put oi.dst v) → wpAnyT P md ops C hd L (f + 1) listed a := by
  intro f
  induction f with
  | zero =>
    intro listed a inv _ hr hy H
    have hun := (mem_ready.1 hr).1
    refine ⟨fun h => (by rw [h] at hr; cases hr), fun j hj => ?_⟩
    have hjn := waitT hw inv hin hun hj
    refine ⟨hjn, ?_⟩
    by_cases hji : j = i
    · subst hji; exact hy.qOp hi H
    · exact absurd hjn (hdone _ _ H j (ready_mono hj hji))
  | succ f ih =>
    intro listed a inv hfree hr hy H
    have hun := (mem_ready.1 hr).1
    refine ⟨fun h => (by rw [h] at hr; cases hr), fun j hj => ?_⟩
    have hjn := waitT hw inv hin hun hj
    refine ⟨hjn, ?_⟩
    by_cases hji : j = i
    · subst hji; exact hy.qOp hi H
    · have h1 := (H.2 j (ready_mono hj hji)).2
      obtain ⟨hjun, oj, hoj, hall⟩ := mem_ready.1 hj
      have hnot : ∀ e ∈ oj.after, Region.binds md e = true → e.on ≠ i := fun e he hb heq => by
        have h1 := hall e he hb
        rw [heq, getD_both hun] at h1
        cases h1
      have h2 := qOp_put hoj (hfree j oj hoj hji hjun hnot) (fun cs b => hsel i oi cs b hi) (fun cs b => hsel j oj cs b hoj) hy h1
      have hfree' : ∀ k ok, ops[k]? = some ok → k ≠ i → (listed.setIfInBounds j true).getD k true = false →
          (∀ e ∈ ok.after, Region.binds md e = true → e.on ≠ i) → oi.apart ops ok = true := fun k ok hk hki hun hno => by
        refine hfree k ok hk hki ?_ hno
        by_cases hjk : j = k
        · subst hjk; exact hjun
        · rw [getD_set_ne true hjk] at hun; exact hun
      refine qOp_mono (fun a' h3 => ih (listed.setIfInBounds j true) a' (inv.set hj) hfree' (ready_mono hr (Ne.symm hji)) h3.1 ?_) h2
      rw [Array.setIfInBounds_comm _ _ hji]
      exact h3.2
theorem seqT_ready {tl : List Nat} {listed : Array Bool} (h : seqT md ops tl listed = true) : ∀ j ∈ Region.ready md ops listed, j ∈ tl := by
  cases tl with
  | nil => intro j hj; simp only [seqT, List.isEmpty_iff] at h; rw [h] at hj; cases hj
  | cons t tl =>
    intro j hj
    simp only [seqT, Bool.and_eq_true, decide_eq_true_eq] at h
    rw [h.1] at hj
    have : j = t := by simpa using hj
    simp [this]
theorem wpAny_of_seqT {Q' : Exit → Act → World → Prop} : ∀ (tl : List Nat) (l : List Oper) (listed : Array Bool) (a : Act) (w : World), tl.map (fun i => ops[i]?) = l.map some →
    seqT md ops tl listed = true → wpList P ops Q' l a w → wpAny P md ops Q' tl.length listed a w
  | [], [], _, _, _, _, hB, h => ⟨by simpa [seqT] using hB, h⟩
  | [], _ :: _, _, _, _, hl, _, _ => by simp at hl
  | _ :: _, [], _, _, _, hl, _, _ => by simp at hl
  | t :: tl, o :: l, listed, a, w, hl, hB, h => by
    simp only [List.map_cons, List.cons.injEq] at hl
    simp only [List.length_cons, seqT, Bool.and_eq_true, decide_eq_true_eq] at hB ⊢
    refine ⟨fun h1 => (by rw [hB.1] at h1; cases h1), fun i hi => ?_⟩
    rw [hB.1] at hi
    have hik : i = t := by simpa using hi
    subst hik
    have hw : wpOp P ops Q' i (wpList P ops Q' l) a w := by unfold wpOp; simp only [hl.1]; exact h
    exact wpOp_mono (fun a' w' h' => wpAny_of_seqT tl l _ a' w' hl.2 hB.2 h') hw
theorem wpAnyT_lex {hd0 tl : List Nat} {Lq : Act → Prop} (hsel : Region.noSelect ops = true) (hw : waitB md ops hd0 = true) (hdj : ∀ j ∈ tl, j ∉ hd0) :
    ∀ (hd : List Nat) (l : List Oper) (listed : Array Bool) (a : Act), hd.map (fun i => ops[i]?) = l.map some → (∀ i ∈ hd, i ∈ hd0) → InvT md ops listed →
    headT md ops tl hd listed = true → wpQuiet P ops C Lq l a →
    wpAnyT P md ops C hd0 (fun listed' a' => seqT md ops tl listed' = true ∧ Lq a') hd.length listed a
  | [], [], listed, a, _, _, _, hB, h => ⟨by simpa [headT] using hB, h⟩
  | [], _ :: _, _, _, hl, _, _, _, _ => by simp at hl
  | _ :: _, [], _, _, hl, _, _, _, _ => by simp at hl
  | i :: hd, o :: l, listed, a, hl, hin, inv, hB, h => by
    simp only [List.map_cons, List.cons.injEq] at hl
    simp only [headT, Bool.and_eq_true] at hB
    obtain ⟨⟨hr, hf⟩, hB'⟩ := hB
    have hr' : i ∈ Region.ready md ops listed := by simpa using hr
    have hst : qOp P ops C i (wpQuiet P ops C Lq l) a := by unfold qOp; simp only [hl.1]; exact h
    obtain ⟨v, hy, hK⟩ := yieldsIn_of_qOp hl.1 hst
    exact wpAnyT_first hl.1 (Region.noSelect_spec hsel) hw (hin i (by simp)) (fun listed' a' hL j hj => hdj j (seqT_ready hL.1 j hj)) hd.length listed a inv (Region.free_spec hl.1 hf) hr' hy
      (wpAnyT_lex hsel hw hdj hd l _ _ hl.2 (fun j hj => hin j (by simp [hj])) (inv.set hr') hB' hK)
/-- the operations with these numbers -/
def pickT (l : List Oper) : List Nat → List Oper
  | [] => []
  | i :: is => (l.drop i).take 1 ++ pickT l is
theorem pickT_map {l : List Oper} : ∀ {is : List Nat}, (∀ i ∈ is, i < l.length) → is.map (fun i => l.toArray[i]?) = (pickT l is).map some
  | [], _ => rfl
  | i :: is, h => by
    have hi := h i (by simp)
    have e : (l.drop i).take 1 = [l[i]] := by rw [List.drop_eq_getElem_cons hi]; rfl
    have ih := pickT_map (l := l) (is := is) (fun j hj => h j (by simp [hj]))
    rw [List.map_cons, ih]
    show _ = ((l.drop i).take 1 ++ pickT l is).map some
    rw [e]
    simp [hi]
/-- **Quiet operations ahead in the order 'hd', then the tail in the order 'tl'.** -/
theorem wp_region_tail {id : Nat} {Q : Exit → Act → World → Prop} {a : Act} {w : World} {l : List Oper} (C : World → Prop) (hd tl : List Nat) (hm : P.follows .mixedOrders = true)
    (hB : (tailB .any l.toArray hd tl && (hd.all fun i => decide (i < l.length)) && (tl.all fun i => decide (i < l.length)) && (tl.all fun j => !hd.contains j)) = true) (hC : C { w with drawn := w.drawn + 1 })
    (h : wpQuiet P l.toArray C (fun a' => ∀ w', C w' → wpList P l.toArray Q (pickT l tl) a' w') (pickT l hd) a) : (Code.region id l.toArray true).wp P Q a w := by
  simp only [tailB, Bool.and_eq_true, decide_eq_true_eq, List.all_eq_true] at hB
  obtain ⟨⟨⟨⟨⟨⟨hsel, hw⟩, hlex⟩, hlen⟩, hh⟩, ht⟩, hdj⟩ := hB
  have inv0 : InvT .any l.toArray (Array.replicate l.toArray.size false) := ⟨by simp, fun j oj _ hl => (by rw [getD_replicate_false] at hl; cases hl)⟩
  have H := wpAnyT_lex (md := .any) hsel hw (fun j hj => by have := hdj j hj; simpa using this) hd (pickT l hd) _ a (pickT_map hh) (fun _ h => h) inv0 hlex h
  refine wp_region_any hm ?_
  have := wpAny_of_headT (Q' := Q) (g := tl.length) (fun listed a' w' hw' hL => wpAny_of_seqT tl (pickT l tl) listed a' w' (pickT_map ht) hL.1 (hL.2 w' hw')) _ _ _ _ hC H
  rw [hlen] at this
  exact this
end
end Go.Proofs.Ytajfjgemfnfakaa


/-
  A region that draws its order: loads are taken first where nobody writes their cells before them.
-/
namespace Go.Proofs.Ytajfjgemfnfakaa
open Go

section
variable {P : Program} {ops : Array Oper} {Q : Exit → Act → World → Prop} {md : Region.Mode} {S : World → Prop} {N : List Nat}

def invB (md : Region.Mode) (ops : Array Oper) (listed : Array Bool) : Bool :=
  decide (listed.size = ops.size) && (List.range ops.size).all fun j => !listed.getD j false || (depsT md ops j).all fun i => listed.getD i false
theorem invB_spec {listed : Array Bool} (h : invB md ops listed = true) : InvT md ops listed := by
  simp only [invB, Bool.and_eq_true, decide_eq_true_eq] at h
  refine ⟨h.1, fun j oj hj hl e he hb => ?_⟩
  have hlt : j < ops.size := (Array.getElem?_eq_some_iff.1 hj).1
  have h1 := List.all_eq_true.1 h.2 j (List.mem_range.2 hlt)
  rw [hl] at h1
  simp only [Bool.not_true, Bool.false_or] at h1
  refine List.all_eq_true.1 h1 e.on ?_
  unfold depsT
  rw [hj]
  exact List.mem_map.2 ⟨e, List.mem_filter.2 ⟨by simpa using he, hb⟩, rfl⟩
/-- each operation that waits for 'i' apart, all keep what the load reads -/
def nB (md : Region.Mode) (ops : Array Oper) (N : List Nat) (i : Nat) : Bool :=
  (List.range ops.size).all fun j => decide (j = i) || !N.contains j || (reachT md ops ops.size [j]).contains i
/-- Whatever order is picked from here on; S holds behind each operation that is carried out, those of N apart. -/
def wpAnyN (P : Program) (md : Region.Mode) (ops : Array Oper) (Q : Exit → Act → World → Prop) (S : World → Prop) (N : List Nat) : Nat → Array Bool → Act → World → Prop
  | 0, listed, a, w => Region.ready md ops listed = [] ∧ Q .normal a w
  | fuel + 1, listed, a, w =>
    (Region.ready md ops listed = [] → Q .normal a w) ∧
    ∀ i ∈ Region.ready md ops listed, wpOp P ops Q i (fun a' w' => (N.contains i = false → S w') ∧ wpAnyN P md ops Q S N fuel (listed.setIfInBounds i true) a' w') a w
theorem wpAny_of_N : ∀ (fuel : Nat) (listed : Array Bool) (a : Act) (w : World), wpAnyN P md ops Q S N fuel listed a w → wpAny P md ops Q fuel listed a w
  | 0, _, _, _, h => h
  | fuel + 1, _, _, _, h => ⟨h.1, fun i hi => wpOp_mono (fun a' w' h' => wpAny_of_N fuel _ a' w' h'.2) (h.2 i hi)⟩
theorem wpAnyN_first {i : Nat} {oi : Oper} {v : Value} (hi : ops[i]? = some oi) (hsel : ∀ (j : Nat) (o : Oper) cs b, ops[j]? = some o → o.op ≠ .select cs b)
    (hQ : ∀ c a w, Q (.panic c) (a.put oi.dst v) w → Q (.panic c) a w) (hn : nB md ops N i = true) :
    ∀ (fuel : Nat) (listed : Array Bool) (a : Act) (w : World), InvT md ops listed →
      (∀ j oj, ops[j]? = some oj → j ≠ i → listed.getD j true = false → (∀ e ∈ oj.after, Region.binds md e = true → e.on ≠ i) → oi.apart ops oj = true) →
      i ∈ Region.ready md ops listed → YieldsIf P ops S oi v a → S w →
      wpAnyN P md ops Q S N fuel (listed.setIfInBounds i true) (a.put oi.dst v) w → wpAnyN P md ops Q S N (fuel + 1) listed a w := by
  intro fuel
  induction fuel with
  | zero =>
    intro listed a w _ _ hr hy hS H
    refine ⟨fun h => (by rw [h] at hr; cases hr), fun j hj => ?_⟩
    by_cases hji : j = i
    · subst hji; exact hy.wpOp hi hS ⟨fun _ => hS, H⟩
    · have := ready_mono hj hji
      rw [H.1] at this
      cases this
  | succ fuel ih =>
    intro listed a w inv hfree hr hy hS H
    refine ⟨fun h => (by rw [h] at hr; cases hr), fun j hj => ?_⟩
    by_cases hji : j = i
    · subst hji; exact hy.wpOp hi hS ⟨fun _ => hS, H⟩
    · have h1 := H.2 j (ready_mono hj hji)
      obtain ⟨hjun, oj, hoj, hall⟩ := mem_ready.1 hj
      have hun := (mem_ready.1 hr).1
      have hnot : ∀ e ∈ oj.after, Region.binds md e = true → e.on ≠ i := fun e he hb heq => by
        have h1 := hall e he hb
        rw [heq, getD_both hun] at h1
        cases h1
      have hNj : N.contains j = false := by
        have h2 := List.all_eq_true.1 hn j (List.mem_range.2 (Array.getElem?_eq_some_iff.1 hoj).1)
        simp only [Bool.or_eq_true, decide_eq_true_eq, Bool.not_eq_true'] at h2
        rcases h2 with (h2 | h2) | h2
        · exact absurd h2 hji
        · exact h2
        · have h3 : i ∈ reachT md ops ops.size [j] := by simpa using h2
          rcases reachT_in inv hj _ [j] (fun x hx => .inl (by simpa using hx)) i h3 with h4 | h4
          · exact absurd h4.symm hji
          · rw [getD_both hun] at h4; cases h4
      have h2 := wpOp_putIf hoj (hfree j oj hoj hji hjun hnot) (fun cs b => hsel i oi cs b hi) (fun cs b => hsel j oj cs b hoj) hQ hy h1
      have hfree' : ∀ k ok, ops[k]? = some ok → k ≠ i → (listed.setIfInBounds j true).getD k true = false →
          (∀ e ∈ ok.after, Region.binds md e = true → e.on ≠ i) → oi.apart ops ok = true := fun k ok hk hki hun hno => by
        refine hfree k ok hk hki ?_ hno
        by_cases hjk : j = k
        · subst hjk; exact hjun
        · rw [getD_set_ne true hjk] at hun; exact hun
      refine wpOp_mono (fun a' w' h3 => ⟨h3.2.1, ih (listed.setIfInBounds j true) a' w' (inv.set hj) hfree' (ready_mono hr (Ne.symm hji)) h3.1 (h3.2.1 hNj) ?_⟩) h2
      rw [Array.setIfInBounds_comm _ _ hji]
      exact h3.2.2
def takeB (md : Region.Mode) (ops : Array Oper) (N : List Nat) (listed : Array Bool) (i : Nat) : Bool :=
  Region.noSelect ops && (Region.free md ops listed i && ((Region.ready md ops listed).contains i && (nB md ops N i && invB md ops listed)))
/-- Take number 'i' first. -/
theorem wpAnyN_take {i : Nat} {oi : Oper} {v : Value} {fuel : Nat} {listed : Array Bool} {a : Act} {w : World} (hi : ops[i]? = some oi) (hB : takeB md ops N listed i = true)
    (hQ : ∀ c a w, Q (.panic c) (a.put oi.dst v) w → Q (.panic c) a w) (hw : Region.wanted oi (yielded ops a.tmps) = true) (hy : ∀ w, S w → (execOp a.eval oi).run P w = .ok (.value v) w) (hS : S w)
    (h : wpAnyN P md ops Q S N fuel (listed.setIfInBounds i true) (a.put oi.dst v) w) : wpAnyN P md ops Q S N (fuel + 1) listed a w := by
  simp only [takeB, Bool.and_eq_true] at hB
  obtain ⟨h1, h2, h3, h4, h5⟩ := hB
  exact wpAnyN_first hi (Region.noSelect_spec h1) hQ h4 fuel listed a w (invB_spec h5) (Region.free_spec hi h2) (by simpa using h3) (.inl ⟨hw, hy⟩) hS h
/-- The one that comes up. -/
theorem wpAnyN_next {i : Nat} {o : Oper} {fuel : Nat} {listed : Array Bool} {a : Act} {w : World} (ho : ops[i]? = some o) (hr : Region.ready md ops listed = [i])
    (h : ∀ K' : Act → World → Prop, Shut (∀ a w, (N.contains i = false → S w) → wpAnyN P md ops Q S N fuel (listed.setIfInBounds i true) a w → K' a w) → if Region.wanted o (yielded ops a.tmps) = true then Oper.wp P o a w K' Q else K' (a.put o.dst undef) w) :
    wpAnyN P md ops Q S N (fuel + 1) listed a w := by
  refine ⟨fun h0 => (by rw [h0] at hr; cases hr), fun j hj => ?_⟩
  rw [hr] at hj
  obtain rfl : j = i := by simpa using hj
  exact wpOp_step ho (fun K' hK => h K' (fun a w hS hW => hK a w ⟨hS, hW⟩))
theorem wpAnyN_done {listed : Array Bool} {a : Act} {w : World} (hr : Region.ready md ops listed = []) (h : Q .normal a w) : ∀ fuel, wpAnyN P md ops Q S N fuel listed a w
  | 0 => ⟨hr, h⟩
  | _ + 1 => ⟨fun _ => h, by rw [hr]; simp⟩
theorem wp_region_N {id : Nat} {a : Act} {w : World} (S : World → Prop) (N : List Nat) (hm : P.follows .mixedOrders = true)
    (h : wpAnyN P .any ops Q S N ops.size (Array.replicate ops.size false) a w.drew) : (Code.region id ops true).wp P Q a w :=
  wp_region_any hm (wpAny_of_N _ _ _ _ h)
end
end Go.Proofs.Ytajfjgemfnfakaa


/-
  Prints: pairs of numbers of the field.
-/
namespace Go.Proofs.Ytajfjgemfnfakaa
open Go.RowKit

abbrev PN := Nat × Nat
def prV (p : PN) : Value := .agg #[.int .u64 p.1, .int .u64 p.2]
def PrOk (p : PN) : Prop := p.1 < P61 ∧ p.2 < P61
def timesP (p q : PN) : PN := (mulM p.1 q.1, mulM p.2 q.2)
def plusP (p q : PN) : PN := (addM p.1 q.1, addM p.2 q.2)
theorem timesP_ok (p q : PN) : PrOk (timesP p q) := ⟨mulM_lt _ _, mulM_lt _ _⟩
theorem plusP_ok (p q : PN) : PrOk (plusP p q) := ⟨addM_lt _ _, addM_lt _ _⟩
def baseP : PN := (1234567890123456789, 987654321987654321)
theorem baseP_ok : PrOk baseP := ⟨by decide, by decide⟩
set_option maxHeartbeats 1000000 in
set_option maxRecDepth 100000 in
theorem times_any (p q : PN) (w : World) (hp : PrOk p) (hq : PrOk q) : Calls Try.prog 69 #[prV p, prV q] w (Ret (prV (timesP p q)) w) := by
  obtain ⟨p0, p1⟩ := p
  obtain ⟨q0, q1⟩ := q
  have C0 := Lib.hid (fun W => mulField_any p0 q0 W hp.1 hq.1)
  have C1 := Lib.hid (fun W => mulField_any p1 q1 W hp.2 hq.2)
  unfold prV timesP
  simp only
  clear hp hq
  obtain ⟨r0, h0⟩ : ∃ r0, mulM p0 q0 = r0 := ⟨_, rfl⟩
  obtain ⟨r1, h1⟩ : ∃ r1, mulM p1 q1 = r1 := ⟨_, rfl⟩
  rw [h0, h1]
  rw [h0] at C0
  rw [h1] at C1
  clear h0 h1
  generalize (p0 : Int) = x0 at *
  generalize (p1 : Int) = x1 at *
  generalize (q0 : Int) = y0 at *
  generalize (q1 : Int) = y1 at *
  generalize (r0 : Int) = z0 at *
  generalize (r1 : Int) = z1 at *
  go_enter Try.func69, Try.ntmps69
  go_wp2_with fail
  refine named fun w3 H3 => ?_
  have B3 := Lib.hid (show Below w.heap.size w w3 by rw [H3.out]; (repeat first | exact Below.refl _ _ | assumption | refine Below.drew ?_ | refine Below.alloc ?_ (by first | exact Nat.le_refl _ | (simp; done) | omega | (simp; omega)) _ | refine Below.setCell ?_ (by first | exact Nat.le_refl _ | (simp; done) | omega | (simp; omega)) _))
  have BX := Lib.hid (show Blk w3 w.heap.size 107 #[.int .u64 x0, .int .u64 x1] by rw [H3.out]; exact ((Blk.new w _ _).alloc _).alloc _)
  have BY := Lib.hid (show Blk w3 (w.heap.size + 1) 107 #[.int .u64 y0, .int .u64 y1] by
    rw [H3.out]
    have h := (Blk.new (w.alloc (.cells #[.int .u64 x0, .int .u64 x1] 107)) 107 #[.int .u64 y0, .int .u64 y1])
    simpa using h.alloc _)
  have BZ := Lib.hid (show Blk w3 (w.heap.size + 1 + 1) 107 #[.int .u64 0, .int .u64 0] by
    rw [H3.out]
    have h := (Blk.new ((w.alloc (.cells #[.int .u64 x0, .int .u64 x1] 107)).alloc (.cells #[.int .u64 y0, .int .u64 y1] 107)) 107 #[.int .u64 0, .int .u64 0])
    simpa using h)
  clear H3
  have hX : w.heap.size < w.heap.size + 1 + 1 := by omega
  generalize w.heap.size + 1 + 1 = Z at *
  generalize w.heap.size + 1 = Y at *
  obtain ⟨X, hXe⟩ : ∃ X, w.heap.size = X := ⟨_, rfl⟩
  rw [hXe] at BX
  simp only [hXe]
  have HS := Lib.hid (fun (W : World) (h : Below w3.heap.size w3 W) => show W.cell? ⟨X, 0, none⟩ = some (.int .u64 x0) ∧ W.cell? ⟨X, 1, none⟩ = some (.int .u64 x1) ∧ W.cell? ⟨Y, 0, none⟩ = some (.int .u64 y0) ∧ W.cell? ⟨Y, 1, none⟩ = some (.int .u64 y1) from ⟨by rw [(BX.out.next h).cell 0]; rfl, by rw [(BX.out.next h).cell 1]; rfl, by rw [(BY.out.next h).cell 0]; rfl, by rw [(BY.out.next h).cell 1]; rfl⟩)
  refine wp_region_N (fun W => W.cell? ⟨X, 0, none⟩ = some (.int .u64 x0) ∧ W.cell? ⟨X, 1, none⟩ = some (.int .u64 x1) ∧ W.cell? ⟨Y, 0, none⟩ = some (.int .u64 y0) ∧ W.cell? ⟨Y, 1, none⟩ = some (.int .u64 y1)) [11] (by kernel_rfl) ?_
  have c0 : Below w3.heap.size w3 w3.drew := (Below.refl _ _).drew
  have hS0 := HS.out _ c0
  refine wpAnyN_take (i := 0) (v := ?_) rfl (by kernel_rfl) (fun _ _ _ h => h) (by rfl) (fun W hW => ?_) hS0 ?_
  rotate_left
  · obtain ⟨d0, d1, e0, e1⟩ := hW
    go_simp
    try with_reducible rfl
  try simp only [List.getElem_toArray, List.getElem_cons_zero, List.getElem_cons_succ, Act.put, List.setIfInBounds_toArray, List.set_cons_zero, List.set_cons_succ]
  refine wpAnyN_take (i := 1) (v := ?_) rfl (by kernel_rfl) (fun _ _ _ h => h) (by rfl) (fun W hW => ?_) hS0 ?_
  rotate_left
  · obtain ⟨d0, d1, e0, e1⟩ := hW
    go_simp
    try with_reducible rfl
  try simp only [List.getElem_toArray, List.getElem_cons_zero, List.getElem_cons_succ, Act.put, List.setIfInBounds_toArray, List.set_cons_zero, List.set_cons_succ]
  refine wpAnyN_take (i := 2) (v := ?_) rfl (by kernel_rfl) (fun _ _ _ h => h) (by rfl) (fun W hW => ?_) hS0 ?_
  rotate_left
  · obtain ⟨d0, d1, e0, e1⟩ := hW
    go_simp
    try with_reducible rfl
  try simp only [List.getElem_toArray, List.getElem_cons_zero, List.getElem_cons_succ, Act.put, List.setIfInBounds_toArray, List.set_cons_zero, List.set_cons_succ]
  refine wpAnyN_take (i := 3) (v := ?_) rfl (by kernel_rfl) (fun _ _ _ h => h) (by rfl) (fun W hW => ?_) hS0 ?_
  rotate_left
  · obtain ⟨d0, d1, e0, e1⟩ := hW
    go_simp
    try with_reducible rfl
  try simp only [List.getElem_toArray, List.getElem_cons_zero, List.getElem_cons_succ, Act.put, List.setIfInBounds_toArray, List.set_cons_zero, List.set_cons_succ]
  refine wpAnyN_take (i := 5) (v := ?_) rfl (by kernel_rfl) (fun _ _ _ h => h) (by rfl) (fun W hW => ?_) hS0 ?_
  rotate_left
  · obtain ⟨d0, d1, e0, e1⟩ := hW
    go_simp
    try with_reducible rfl
  try simp only [List.getElem_toArray, List.getElem_cons_zero, List.getElem_cons_succ, Act.put, List.setIfInBounds_toArray, List.set_cons_zero, List.set_cons_succ]
  refine wpAnyN_take (i := 6) (v := ?_) rfl (by kernel_rfl) (fun _ _ _ h => h) (by rfl) (fun W hW => ?_) hS0 ?_
  rotate_left
  · obtain ⟨d0, d1, e0, e1⟩ := hW
    go_simp
    try with_reducible rfl
  try simp only [List.getElem_toArray, List.getElem_cons_zero, List.getElem_cons_succ, Act.put, List.setIfInBounds_toArray, List.set_cons_zero, List.set_cons_succ]
  refine wpAnyN_take (i := 7) (v := ?_) rfl (by kernel_rfl) (fun _ _ _ h => h) (by rfl) (fun W hW => ?_) hS0 ?_
  rotate_left
  · obtain ⟨d0, d1, e0, e1⟩ := hW
    go_simp
    try with_reducible rfl
  try simp only [List.getElem_toArray, List.getElem_cons_zero, List.getElem_cons_succ, Act.put, List.setIfInBounds_toArray, List.set_cons_zero, List.set_cons_succ]
  refine wpAnyN_take (i := 8) (v := ?_) rfl (by kernel_rfl) (fun _ _ _ h => h) (by rfl) (fun W hW => ?_) hS0 ?_
  rotate_left
  · obtain ⟨d0, d1, e0, e1⟩ := hW
    go_simp
    try with_reducible rfl
  try simp only [List.getElem_toArray, List.getElem_cons_zero, List.getElem_cons_succ, Act.put, List.setIfInBounds_toArray, List.set_cons_zero, List.set_cons_succ]
  refine wpAnyN_next (i := 4) rfl (by kernel_rfl) (fun Kc hK => ?_)
  go_simp
  go_wp2_with (go_at_call 73; refine (C0.out _).mono ?_; rintro e w4 ⟨rfl, hb4⟩)
  have c4 : Below w3.heap.size w3 w4 := c0.trans hb4
  refine hK.out _ _ (fun _ => HS.out _ c4) ?_
  clear hK Kc hb4
  try simp only [List.getElem_toArray, List.getElem_cons_zero, List.getElem_cons_succ, Act.put, List.setIfInBounds_toArray, List.set_cons_zero, List.set_cons_succ]
  refine wpAnyN_next (i := 9) rfl (by kernel_rfl) (fun Kc hK => ?_)
  go_simp
  go_wp2_with (go_at_call 73; refine (C1.out _).mono ?_; rintro e w5 ⟨rfl, hb5⟩)
  have c5 : Below w3.heap.size w3 w5 := c4.trans (hb5.mono c4.size)
  refine hK.out _ _ (fun _ => HS.out _ c5) ?_
  clear hK Kc hb5
  try simp only [List.getElem_toArray, List.getElem_cons_zero, List.getElem_cons_succ, Act.put, List.setIfInBounds_toArray, List.set_cons_zero, List.set_cons_succ]
  refine wpAnyN_next (i := 10) rfl (by kernel_rfl) (fun Kc hK => ?_)
  go_simp
  refine hK.out _ _ (fun _ => HS.out _ c5) ?_
  clear hK Kc
  try simp only [List.getElem_toArray, List.getElem_cons_zero, List.getElem_cons_succ, Act.put, List.setIfInBounds_toArray, List.set_cons_zero, List.set_cons_succ]
  have BZ5 := BZ.out.next c5
  have g0 : w5.cell? ⟨Z, 0, none⟩ = some (.int .u64 0) := by rw [BZ5.cell 0]; rfl
  have g1 : w5.cell? ⟨Z, 1, none⟩ = some (.int .u64 0) := by rw [BZ5.cell 1]; rfl
  have f0 := BZ5.frozen 0
  have f1 := BZ5.frozen 1
  have BZ6 := (BZ5.set_ 0 (.int .u64 z0)).set_ 1 (.int .u64 z1)
  have x6 : ((w5.setCell ⟨Z, 0, none⟩ (.int .u64 z0)).setCell ⟨Z, 1, none⟩ (.int .u64 z1)).cell? ⟨Z, 0, none⟩ = some (.int .u64 z0) := by rw [BZ6.cell 0]; rfl
  have x7 : ((w5.setCell ⟨Z, 0, none⟩ (.int .u64 z0)).setCell ⟨Z, 1, none⟩ (.int .u64 z1)).cell? ⟨Z, 1, none⟩ = some (.int .u64 z1) := by rw [BZ6.cell 1]; rfl
  have b6 := Lib.hid (((B3.out.trans (c5.mono B3.out.size)).setCell (p := ⟨Z, 0, none⟩) (by show w.heap.size ≤ Z; omega) (.int .u64 z0)).setCell (p := ⟨Z, 1, none⟩) (by show w.heap.size ≤ Z; omega) (.int .u64 z1))
  clear BZ5 BZ6
  refine wpAnyN_next (i := 11) rfl (by kernel_rfl) (fun Kc hK => ?_)
  go_simp
  refine hK.out _ _ (fun h => absurd h (by decide)) ?_
  clear hK Kc
  try simp only [List.getElem_toArray, List.getElem_cons_zero, List.getElem_cons_succ, Act.put, List.setIfInBounds_toArray, List.set_cons_zero, List.set_cons_succ]
  refine wpAnyN_done (by kernel_rfl) ?_ _
  go_wp2_with fail
  exact bodyPost_ret (v := .agg #[.int .u64 z0, .int .u64 z1]) (by simp [results, Try.results69, go_sem, x6, x7]) rfl ⟨rfl, b6.out⟩
set_option maxHeartbeats 1000000 in
set_option maxRecDepth 100000 in
theorem plus_any (p q : PN) (w : World) (hp : PrOk p) (hq : PrOk q) : Calls Try.prog 70 #[prV p, prV q] w (Ret (prV (plusP p q)) w) := by
  obtain ⟨p0, p1⟩ := p
  obtain ⟨q0, q1⟩ := q
  have C0 := Lib.hid (fun W => addField_any p0 q0 W hp.1 hq.1)
  have C1 := Lib.hid (fun W => addField_any p1 q1 W hp.2 hq.2)
  unfold prV plusP
  simp only
  clear hp hq
  obtain ⟨r0, h0⟩ : ∃ r0, addM p0 q0 = r0 := ⟨_, rfl⟩
  obtain ⟨r1, h1⟩ : ∃ r1, addM p1 q1 = r1 := ⟨_, rfl⟩
  rw [h0, h1]
  rw [h0] at C0
  rw [h1] at C1
  clear h0 h1
  generalize (p0 : Int) = x0 at *
  generalize (p1 : Int) = x1 at *
  generalize (q0 : Int) = y0 at *
  generalize (q1 : Int) = y1 at *
  generalize (r0 : Int) = z0 at *
  generalize (r1 : Int) = z1 at *
  go_enter Try.func70, Try.ntmps70
  go_wp2_with fail
  refine named fun w3 H3 => ?_
  have B3 := Lib.hid (show Below w.heap.size w w3 by rw [H3.out]; (repeat first | exact Below.refl _ _ | assumption | refine Below.drew ?_ | refine Below.alloc ?_ (by first | exact Nat.le_refl _ | (simp; done) | omega | (simp; omega)) _ | refine Below.setCell ?_ (by first | exact Nat.le_refl _ | (simp; done) | omega | (simp; omega)) _))
  have BX := Lib.hid (show Blk w3 w.heap.size 107 #[.int .u64 x0, .int .u64 x1] by rw [H3.out]; exact ((Blk.new w _ _).alloc _).alloc _)
  have BY := Lib.hid (show Blk w3 (w.heap.size + 1) 107 #[.int .u64 y0, .int .u64 y1] by
    rw [H3.out]
    have h := (Blk.new (w.alloc (.cells #[.int .u64 x0, .int .u64 x1] 107)) 107 #[.int .u64 y0, .int .u64 y1])
    simpa using h.alloc _)
  have BZ := Lib.hid (show Blk w3 (w.heap.size + 1 + 1) 107 #[.int .u64 0, .int .u64 0] by
    rw [H3.out]
    have h := (Blk.new ((w.alloc (.cells #[.int .u64 x0, .int .u64 x1] 107)).alloc (.cells #[.int .u64 y0, .int .u64 y1] 107)) 107 #[.int .u64 0, .int .u64 0])
    simpa using h)
  clear H3
  have hX : w.heap.size < w.heap.size + 1 + 1 := by omega
  generalize w.heap.size + 1 + 1 = Z at *
  generalize w.heap.size + 1 = Y at *
  obtain ⟨X, hXe⟩ : ∃ X, w.heap.size = X := ⟨_, rfl⟩
  rw [hXe] at BX
  simp only [hXe]
  have HS := Lib.hid (fun (W : World) (h : Below w3.heap.size w3 W) => show W.cell? ⟨X, 0, none⟩ = some (.int .u64 x0) ∧ W.cell? ⟨X, 1, none⟩ = some (.int .u64 x1) ∧ W.cell? ⟨Y, 0, none⟩ = some (.int .u64 y0) ∧ W.cell? ⟨Y, 1, none⟩ = some (.int .u64 y1) from ⟨by rw [(BX.out.next h).cell 0]; rfl, by rw [(BX.out.next h).cell 1]; rfl, by rw [(BY.out.next h).cell 0]; rfl, by rw [(BY.out.next h).cell 1]; rfl⟩)
  refine wp_region_N (fun W => W.cell? ⟨X, 0, none⟩ = some (.int .u64 x0) ∧ W.cell? ⟨X, 1, none⟩ = some (.int .u64 x1) ∧ W.cell? ⟨Y, 0, none⟩ = some (.int .u64 y0) ∧ W.cell? ⟨Y, 1, none⟩ = some (.int .u64 y1)) [11] (by kernel_rfl) ?_
  have c0 : Below w3.heap.size w3 w3.drew := (Below.refl _ _).drew
  have hS0 := HS.out _ c0
  refine wpAnyN_take (i := 0) (v := ?_) rfl (by kernel_rfl) (fun _ _ _ h => h) (by rfl) (fun W hW => ?_) hS0 ?_
  rotate_left
  · obtain ⟨d0, d1, e0, e1⟩ := hW
    go_simp
    try with_reducible rfl
  try simp only [List.getElem_toArray, List.getElem_cons_zero, List.getElem_cons_succ, Act.put, List.setIfInBounds_toArray, List.set_cons_zero, List.set_cons_succ]
  refine wpAnyN_take (i := 1) (v := ?_) rfl (by kernel_rfl) (fun _ _ _ h => h) (by rfl) (fun W hW => ?_) hS0 ?_
  rotate_left
  · obtain ⟨d0, d1, e0, e1⟩ := hW
    go_simp
    try with_reducible rfl
  try simp only [List.getElem_toArray, List.getElem_cons_zero, List.getElem_cons_succ, Act.put, List.setIfInBounds_toArray, List.set_cons_zero, List.set_cons_succ]
  refine wpAnyN_take (i := 2) (v := ?_) rfl (by kernel_rfl) (fun _ _ _ h => h) (by rfl) (fun W hW => ?_) hS0 ?_
  rotate_left
  · obtain ⟨d0, d1, e0, e1⟩ := hW
    go_simp
    try with_reducible rfl
  try simp only [List.getElem_toArray, List.getElem_cons_zero, List.getElem_cons_succ, Act.put, List.setIfInBounds_toArray, List.set_cons_zero, List.set_cons_succ]
  refine wpAnyN_take (i := 3) (v := ?_) rfl (by kernel_rfl) (fun _ _ _ h => h) (by rfl) (fun W hW => ?_) hS0 ?_
  rotate_left
  · obtain ⟨d0, d1, e0, e1⟩ := hW
    go_simp
    try with_reducible rfl
  try simp only [List.getElem_toArray, List.getElem_cons_zero, List.getElem_cons_succ, Act.put, List.setIfInBounds_toArray, List.set_cons_zero, List.set_cons_succ]
  refine wpAnyN_take (i := 5) (v := ?_) rfl (by kernel_rfl) (fun _ _ _ h => h) (by rfl) (fun W hW => ?_) hS0 ?_
  rotate_left
  · obtain ⟨d0, d1, e0, e1⟩ := hW
    go_simp
    try with_reducible rfl
  try simp only [List.getElem_toArray, List.getElem_cons_zero, List.getElem_cons_succ, Act.put, List.setIfInBounds_toArray, List.set_cons_zero, List.set_cons_succ]
  refine wpAnyN_take (i := 6) (v := ?_) rfl (by kernel_rfl) (fun _ _ _ h => h) (by rfl) (fun W hW => ?_) hS0 ?_
  rotate_left
  · obtain ⟨d0, d1, e0, e1⟩ := hW
    go_simp
    try with_reducible rfl
  try simp only [List.getElem_toArray, List.getElem_cons_zero, List.getElem_cons_succ, Act.put, List.setIfInBounds_toArray, List.set_cons_zero, List.set_cons_succ]
  refine wpAnyN_take (i := 7) (v := ?_) rfl (by kernel_rfl) (fun _ _ _ h => h) (by rfl) (fun W hW => ?_) hS0 ?_
  rotate_left
  · obtain ⟨d0, d1, e0, e1⟩ := hW
    go_simp
    try with_reducible rfl
  try simp only [List.getElem_toArray, List.getElem_cons_zero, List.getElem_cons_succ, Act.put, List.setIfInBounds_toArray, List.set_cons_zero, List.set_cons_succ]
  refine wpAnyN_take (i := 8) (v := ?_) rfl (by kernel_rfl) (fun _ _ _ h => h) (by rfl) (fun W hW => ?_) hS0 ?_
  rotate_left
  · obtain ⟨d0, d1, e0, e1⟩ := hW
    go_simp
    try with_reducible rfl
  try simp only [List.getElem_toArray, List.getElem_cons_zero, List.getElem_cons_succ, Act.put, List.setIfInBounds_toArray, List.set_cons_zero, List.set_cons_succ]
  refine wpAnyN_next (i := 4) rfl (by kernel_rfl) (fun Kc hK => ?_)
  go_simp
  go_wp2_with (go_at_call 74; refine (C0.out _).mono ?_; rintro e w4 ⟨rfl, hb4⟩)
  have c4 : Below w3.heap.size w3 w4 := c0.trans hb4
  refine hK.out _ _ (fun _ => HS.out _ c4) ?_
  clear hK Kc hb4
  try simp only [List.getElem_toArray, List.getElem_cons_zero, List.getElem_cons_succ, Act.put, List.setIfInBounds_toArray, List.set_cons_zero, List.set_cons_succ]
  refine wpAnyN_next (i := 9) rfl (by kernel_rfl) (fun Kc hK => ?_)
  go_simp
  go_wp2_with (go_at_call 74; refine (C1.out _).mono ?_; rintro e w5 ⟨rfl, hb5⟩)
  have c5 : Below w3.heap.size w3 w5 := c4.trans (hb5.mono c4.size)
  refine hK.out _ _ (fun _ => HS.out _ c5) ?_
  clear hK Kc hb5
  try simp only [List.getElem_toArray, List.getElem_cons_zero, List.getElem_cons_succ, Act.put, List.setIfInBounds_toArray, List.set_cons_zero, List.set_cons_succ]
  refine wpAnyN_next (i := 10) rfl (by kernel_rfl) (fun Kc hK => ?_)
  go_simp
  refine hK.out _ _ (fun _ => HS.out _ c5) ?_
  clear hK Kc
  try simp only [List.getElem_toArray, List.getElem_cons_zero, List.getElem_cons_succ, Act.put, List.setIfInBounds_toArray, List.set_cons_zero, List.set_cons_succ]
  have BZ5 := BZ.out.next c5
  have g0 : w5.cell? ⟨Z, 0, none⟩ = some (.int .u64 0) := by rw [BZ5.cell 0]; rfl
  have g1 : w5.cell? ⟨Z, 1, none⟩ = some (.int .u64 0) := by rw [BZ5.cell 1]; rfl
  have f0 := BZ5.frozen 0
  have f1 := BZ5.frozen 1
  have BZ6 := (BZ5.set_ 0 (.int .u64 z0)).set_ 1 (.int .u64 z1)
  have x6 : ((w5.setCell ⟨Z, 0, none⟩ (.int .u64 z0)).setCell ⟨Z, 1, none⟩ (.int .u64 z1)).cell? ⟨Z, 0, none⟩ = some (.int .u64 z0) := by rw [BZ6.cell 0]; rfl
  have x7 : ((w5.setCell ⟨Z, 0, none⟩ (.int .u64 z0)).setCell ⟨Z, 1, none⟩ (.int .u64 z1)).cell? ⟨Z, 1, none⟩ = some (.int .u64 z1) := by rw [BZ6.cell 1]; rfl
  have b6 := Lib.hid (((B3.out.trans (c5.mono B3.out.size)).setCell (p := ⟨Z, 0, none⟩) (by show w.heap.size ≤ Z; omega) (.int .u64 z0)).setCell (p := ⟨Z, 1, none⟩) (by show w.heap.size ≤ Z; omega) (.int .u64 z1))
  clear BZ5 BZ6
  refine wpAnyN_next (i := 11) rfl (by kernel_rfl) (fun Kc hK => ?_)
  go_simp
  refine hK.out _ _ (fun h => absurd h (by decide)) ?_
  clear hK Kc
  try simp only [List.getElem_toArray, List.getElem_cons_zero, List.getElem_cons_succ, Act.put, List.setIfInBounds_toArray, List.set_cons_zero, List.set_cons_succ]
  refine wpAnyN_done (by kernel_rfl) ?_ _
  go_wp2_with fail
  exact bodyPost_ret (v := .agg #[.int .u64 z0, .int .u64 z1]) (by simp [results, Try.results70, go_sem, x6, x7]) rfl ⟨rfl, b6.out⟩
theorem bases_any (w : World) : Calls Try.prog 68 #[] w (Ret (prV baseP) w) := by
  go_enter Try.func68, Try.ntmps68
  go_wp2_with fail
  have x6 : (w.alloc (.cells #[.int .u64 1234567890123456789, .int .u64 987654321987654321] 107)).cell? ⟨w.heap.size, 0, none⟩ = some (.int .u64 1234567890123456789) := cell_of_row _ _ 0 _ _ _ (heap_alloc_new _ _)
  have x7 : (w.alloc (.cells #[.int .u64 1234567890123456789, .int .u64 987654321987654321] 107)).cell? ⟨w.heap.size, 1, none⟩ = some (.int .u64 987654321987654321) := cell_of_row _ _ 1 _ _ _ (heap_alloc_new _ _)
  exact bodyPost_ret (v := .agg #[.int .u64 1234567890123456789, .int .u64 987654321987654321]) (by simp [results, Try.results68, go_sem, x6, x7]) rfl ⟨rfl, by (repeat first | exact Below.refl _ _ | assumption | refine Below.drew ?_ | refine Below.alloc ?_ (by first | exact Nat.le_refl _ | (simp; done) | omega | (simp; omega)) _ | refine Below.setCell ?_ (by first | exact Nat.le_refl _ | (simp; done) | omega | (simp; omega)) _)⟩
end Go.Proofs.Ytajfjgemfnfakaa
