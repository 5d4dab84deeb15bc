/-
  Texts of this claim, merged: MapD WdM WdN PlainI PlainP Found PlainS Plain GpM UnM Unp Unw SamG Src.
-/
import Derived.Test.YtnhkoinjjbfofaaDoorP2
import Derived.Lib.Bytealg
import Derived.Deep.RegionLaw
import Derived.Deep.DeepCutAuto
import Derived.Laws.BitsLemmas
import Derived.Laws.Bits64


/-
  The letters of a grammar replaced: what is made, and the code.
-/
namespace Go.Proofs.YtnhkoinjjbfofaaDoor

def mapOk (rs : List Fac) (ws : List ByteArray) : Bool := (gOk rs).isSome && (decide (ws.length = 4) && ws.all okW)
def mapT (rs : List Fac) (ws : List ByteArray) : List Fac := trimL ((mapS2 rs ws).1.take ((lastI (mapS2 rs ws).2).toNat + 1))
def mapF (rs : List Fac) (ws : List ByteArray) : List Fac :=
  if mapOk rs ws = false then [] else if 400 < (mapS2 rs ws).1.length then [] else if (mapS2 rs ws).2.length = 0 ∨ lastI (mapS2 rs ws).2 < 0 then [] else limF (mapT rs ws)
def mapC (rs : List Fac) (ws : List ByteArray) : Int :=
  if mapOk rs ws = false then 1 else if 400 < (mapS2 rs ws).1.length then 3 else if (mapS2 rs ws).2.length = 0 ∨ lastI (mapS2 rs ws).2 < 0 then 0 else limC (mapT rs ws)
end Go.Proofs.YtnhkoinjjbfofaaDoor


/-
  The word of a grammar whose letters are replaced.
-/
namespace Go.Proofs.YtnhkoinjjbfofaaDoor

theorem full_pre {α : Type} (d : α) (F : Nat → α) (G : α → α → Fac → α) : ∀ (ys xs : List Fac) {p : Nat}, p < xs.length → (full d F G (xs ++ ys)).getD p d = (full d F G xs).getD p d
  | [], xs, p, _ => by rw [List.append_nil]
  | y :: ys, xs, p, h => by
    rw [show xs ++ y :: ys = (xs ++ [y]) ++ ys by simp, full_pre d F G ys (xs ++ [y]) (by simp; omega), full_old d F G xs y h]
theorem wds_pre (xs ys : List Fac) {p : Nat} (h : p < xs.length) : (wds (xs ++ ys)).getD p [] = (wds xs).getD p [] := full_pre [] wdF wdG ys xs h
theorem wds_take {rs : List Fac} {n p : Nat} (h : p < n) (hn : n ≤ rs.length) : (wds (rs.take n)).getD p [] = (wds rs).getD p [] := by
  have := wds_pre (rs.take n) (rs.drop n) (p := p) (by rw [List.length_take]; omega)
  rw [List.take_append_drop] at this
  exact this.symm
theorem wds_pair {rs : List Fac} (hwf : WF rs) {k : Nat} {r : Fac} (h : rs[k]? = some r) (h0 : r.l.size = 0) : (wds rs).getD k [] = (wds rs).getD r.a.toNat [] ++ (wds rs).getD r.b.toNat [] := full_pair [] wdF wdG hwf h h0
theorem wds_one {rs : List Fac} {k : Nat} {r : Fac} (h : rs[k]? = some r) {c : UInt8} (hl : r.l = ⟨#[c]⟩) : (wds rs).getD k [] = [c.toNat - 97] := by
  have := full_let [] wdF wdG h (by rw [hl]; show (1 : Nat) ≠ 0; omega)
  rw [hl] at this
  exact this
theorem wds_snoc {rs : List Fac} {a b : Int} (ha : 0 ≤ a ∧ a < rs.length) (hb : 0 ≤ b ∧ b < rs.length) (hwf : WF rs) : (wds (rs ++ [⟨⟨#[]⟩, a, b⟩])).getD rs.length [] = (wds rs).getD a.toNat [] ++ (wds rs).getD b.toNat [] := by
  have hr : (rs ++ [(⟨⟨#[]⟩, a, b⟩ : Fac)])[rs.length]? = some ⟨⟨#[]⟩, a, b⟩ := by simp
  rw [wds_pair (wf_snoc hwf ha hb) hr rfl, wds_pre _ _ (show a.toNat < rs.length by have := ha.1; have := ha.2; omega), wds_pre _ _ (show b.toNat < rs.length by have := hb.1; have := hb.2; omega)]
/-- rules that are raised -/
theorem wds_raise {xs ys : List Fac} (hx : WF xs) (hy : WF ys) : ∀ j, j < ys.length → (wds (xs ++ raiseL xs.length ys)).getD (xs.length + j) [] = (wds ys).getD j [] := by
  intro j
  induction j using Nat.strongRecOn with
  | ind j ih =>
    intro hj
    have hr : ys[j]? = some ys[j] := List.getElem?_eq_getElem hj
    have hz : (xs ++ raiseL xs.length ys)[xs.length + j]? = some (rsF xs.length ys[j]) := by
      rw [List.getElem?_append_right (by omega), Nat.add_sub_cancel_left]
      unfold raiseL
      rw [List.getElem?_map, hr]; rfl
    rcases hy j _ hr with ⟨h0, a0, a1, b0, b1⟩ | ⟨c, hc, hl, _, _⟩
    · have e : rsF xs.length ys[j] = ⟨ys[j].l, ys[j].a + xs.length, ys[j].b + xs.length⟩ := by unfold rsF; rw [if_pos h0]
      rw [e] at hz
      rw [wds_pair (wf_raise hx hy) hz h0, wds_pair hy hr h0]
      simp only
      rw [show (ys[j].a + (xs.length : Int)).toNat = xs.length + ys[j].a.toNat by omega, show (ys[j].b + (xs.length : Int)).toNat = xs.length + ys[j].b.toNat by omega, ih _ (by omega) (by omega), ih _ (by omega) (by omega)]
    · have e : rsF xs.length ys[j] = ys[j] := by unfold rsF; rw [if_neg (by rw [hl]; show ¬ (1 : Nat) = 0; omega)]
      rw [e] at hz
      rw [wds_one hz hl, wds_one hr hl]
def numC (c : UInt8) : Nat := c.toNat - 97
def nums (s : ByteArray) : List Nat := s.data.toList.map numC
theorem wds_pairs (w : List UInt8) : ∀ (cs : List UInt8) (b : Int) (xs : List Fac) (u : List Nat), WF xs → (∀ c ∈ cs, 0 ≤ atP w c ∧ atP w c < xs.length ∧ (wds xs).getD (atP w c).toNat [] = [numC c]) → 0 ≤ b → b < xs.length → (wds xs).getD b.toNat [] = u →
    (wds (xs ++ pairsP w cs b xs.length)).getD (if cs = [] then b.toNat else xs.length + cs.length - 1) [] = u ++ cs.map numC
  | [], b, xs, u, _, _, _, _, hu => by
    rw [show pairsP w [] b xs.length = [] from rfl, List.append_nil, if_pos rfl, hu]; simp
  | c :: cs, b, xs, u, hw, hc, b0, b1, hu => by
    have hcc := hc c (by simp)
    have hw2 := wf_snoc hw (a := b) (b := atP w c) ⟨b0, b1⟩ ⟨hcc.1, hcc.2.1⟩
    have hv := wds_snoc (rs := xs) (a := b) (b := atP w c) ⟨b0, b1⟩ ⟨hcc.1, hcc.2.1⟩ hw
    rw [hu, hcc.2.2] at hv
    have ih := wds_pairs w cs (xs.length : Int) (xs ++ [⟨⟨#[]⟩, b, atP w c⟩]) (u ++ [numC c]) hw2 (fun c' hc' => by
      have := hc c' (by simp [hc'])
      exact ⟨this.1, by simp; omega, by rw [wds_pre _ _ (by omega)]; exact this.2.2⟩) (by omega) (by simp; omega) (by rw [Int.toNat_natCast]; exact hv)
    simp only [List.length_append, List.length_singleton, List.append_assoc, List.singleton_append] at ih
    rw [if_neg (by simp)]
    show (wds (xs ++ ⟨⟨#[]⟩, b, atP w c⟩ :: pairsP w cs xs.length (xs.length + 1))).getD _ [] = _
    by_cases h : cs = []
    · subst h
      simp only [pairsP, if_true, Int.toNat_natCast, List.map_nil, List.append_nil, List.length_singleton, List.map_cons] at ih ⊢
      simpa using ih
    · rw [if_neg h] at ih
      rw [show xs.length + (c :: cs).length - 1 = xs.length + 1 + cs.length - 1 by simp only [List.length_cons]; omega, ih]
      simp
theorem plain_word {w : List UInt8} (hl : w.all letB = true) (h0 : w ≠ []) : (wds (plainL w)).getD ((plainL w).length - 1) [] = w.map numC := by
  unfold plainL
  split
  · exact absurd rfl h0
  · rename_i c cs
    have hm : ∀ c' ∈ c :: cs, letB c' = true := by simpa using hl
    have hlen : (lettersP (c :: cs)).length = (ksP (c :: cs)).length := by simp [lettersP]
    rw [← hlen]
    have hat : ∀ c' ∈ c :: cs, 0 ≤ atP (c :: cs) c' ∧ atP (c :: cs) c' < (lettersP (c :: cs)).length ∧ (wds (lettersP (c :: cs))).getD (atP (c :: cs) c').toNat [] = [numC c'] := fun c' hc' => by
      have h1 := atP_lt hc' (hm c' hc')
      refine ⟨h1.1, by rw [hlen]; exact h1.2, ?_⟩
      refine wds_one (r := ruleC c') (c := c') ?_ rfl
      unfold lettersP atP
      rw [Int.toNat_natCast, List.getElem?_map]
      have hi := mem_ks hc' (hm c' hc')
      rw [List.getElem?_eq_getElem (List.idxOf_lt_length_of_mem hi), List.getElem_idxOf]; rfl
    have := wds_pairs (c :: cs) cs (atP (c :: cs) c) (lettersP (c :: cs)) [numC c] (wf_letters _ fun _ h => ks_letB h) (fun c' hc' => hat c' (by simp [hc'])) (hat c (by simp)).1 (hat c (by simp)).2.1 (hat c (by simp)).2.2
    rw [List.length_append, pairsP_len]
    by_cases h : cs = []
    · subst h
      simp only [if_true, List.map_nil, List.append_nil, List.length_nil, Nat.add_zero, List.map_cons] at this ⊢
      have e : (lettersP [c]).length - 1 = (atP [c] c).toNat := by
        have h1 := hat c (by simp)
        have h2 : (lettersP [c]).length ≤ 1 := by
          rw [hlen]
          unfold ksP
          have : ∀ l : List UInt8, l.Nodup → (l.filter fun x => decide (x ∈ [c])).length ≤ 1 := fun l hl => by
            have : (l.filter fun x => decide (x ∈ [c])) = l.filter (fun x => x == c) := by
              apply List.filter_congr
              intro x _
              rw [Bool.eq_iff_iff]; simp
            rw [this, ← List.countP_eq_length_filter]
            have := List.nodup_iff_count.1 hl c
            exact this
          exact this _ (by decide)
        omega
      rw [e]; exact this
    · rw [if_neg h] at this
      rw [this]; simp
/-- the word with its letters replaced -/
def mapW (ws : List ByteArray) (u : List Nat) : List Nat := u.flatMap fun k => nums (ws.getD k ⟨#[]⟩)
theorem mapW_app (ws : List ByteArray) (u v : List Nat) : mapW ws (u ++ v) = mapW ws u ++ mapW ws v := by simp [mapW]
/-- what the letters' rules hold -/
structure MlW (rs : List Fac) (ws : List ByteArray) (s : List Fac × List Int) (k : Nat) : Prop where
  hi : ∀ i, k ≤ i → i < 4 → s.2.getD i 0 = -1
  lo : ∀ i, i < k → (s.2.getD i 0 < 0 → nums (ws.getD i ⟨#[]⟩) = [] ∨ usedL rs (lb i) = false) ∧ (0 ≤ s.2.getD i 0 → (wds s.1).getD (s.2.getD i 0).toNat [] = nums (ws.getD i ⟨#[]⟩) ∧ nums (ws.getD i ⟨#[]⟩) ≠ [])
theorem nums_nil {s : ByteArray} : nums s = [] ↔ s.size = 0 := by
  unfold nums
  rw [List.map_eq_nil_iff, ← byte_len, List.length_eq_zero_iff]
theorem MlW.step {rs : List Fac} {ws : List ByteArray} {s : List Fac × List Int} {k : Nat} (h : MlW rs ws s k) (hI : MlI s k) (hk : k < 4) {w : ByteArray} (hw : okW w = true) (he : ws.getD k ⟨#[]⟩ = w) : MlW rs ws (mlStep rs k w s) (k + 1) := by
  unfold mlStep
  split
  · rename_i hc
    obtain ⟨hl, hsz⟩ := okW_let hw
    have hne : w.data.toList ≠ [] := fun e => hc.1 (by rw [← byte_len, e]; rfl)
    have h2 := plainL_pos hne hl
    have hset : ∀ (v : Int) (i : Nat), (s.2.set k v).getD i 0 = if i = k then v else s.2.getD i 0 := fun v i => by
      rw [List.getD_eq_getElem?_getD, List.getElem?_set]
      by_cases e : k = i
      · subst e; rw [if_pos rfl, if_pos (by rw [hI.st]; exact hk), if_pos rfl]; rfl
      · rw [if_neg e, if_neg (fun q => e q.symm), ← List.getD_eq_getElem?_getD]
    refine ⟨fun i h1 h4 => ?_, fun i hi => ?_⟩
    · simp only
      rw [hset, if_neg (by omega)]; exact h.hi i (by omega) h4
    · simp only
      rw [hset]
      by_cases e : i = k
      · subst e
        rw [if_pos rfl, he]
        refine ⟨fun q => by omega, fun _ => ⟨?_, fun q => hc.1 (nums_nil.1 q)⟩⟩
        have e1 : ((((s.1.length + (plainL w.data.toList).length : Nat) : Int) - 1).toNat) = s.1.length + ((plainL w.data.toList).length - 1) := by omega
        rw [e1, wds_raise hI.wf (wf_plain hl) _ (by omega), plain_word hl hne]; rfl
      · rw [if_neg e]
        have := h.lo i (by omega)
        refine ⟨this.1, fun q => ?_⟩
        have hb := hI.b i (by omega)
        rw [wds_pre _ _ (by omega)]
        exact this.2 q
  · rename_i hc
    refine ⟨fun i h1 h4 => h.hi i (by omega) h4, fun i hi => ?_⟩
    by_cases e : i = k
    · subst e
      rw [he]
      have h1 := h.hi i (Nat.le_refl _) hk
      refine ⟨fun _ => ?_, fun q => by omega⟩
      by_cases h0 : w.size = 0
      · exact .inl (nums_nil.2 h0)
      · right
        cases hu : usedL rs (lb i) with
        | false => rfl
        | true => exact absurd ⟨h0, hu⟩ hc
    · exact h.lo i (by omega)
theorem MlW.go {rs : List Fac} {ws0 : List ByteArray} : ∀ (ws : List ByteArray) (k : Nat) (s : List Fac × List Int), MlW rs ws0 s k → MlI s k → k + ws.length ≤ 4 → (∀ w ∈ ws, okW w = true) → ws0.drop k = ws → MlW rs ws0 (mlGo rs k ws s) (k + ws.length)
  | [], _, _, h, _, _, _, _ => h
  | w :: ws, k, s, h, hI, hk, hw, hd => by
    simp only [List.length_cons] at hk ⊢
    have hx : ws0[k]? = some w := by
      have : (ws0.drop k)[0]? = some w := by rw [hd]; rfl
      rw [List.getElem?_drop] at this; simpa using this
    have := MlW.go (rs := rs) (ws0 := ws0) ws (k + 1) (mlStep rs k w s) (h.step hI (by omega) (hw w (by simp)) (by rw [List.getD_eq_getElem?_getD, hx]; rfl)) (hI.step (by omega) (hw w (by simp))) (by omega) (fun x hx => hw x (by simp [hx])) (by
      rw [← List.drop_drop, hd]; rfl)
    rw [show k + (ws.length + 1) = k + 1 + ws.length by omega]
    exact this
theorem MlW.nil (rs : List Fac) (ws : List ByteArray) : MlW rs ws ([], [-1, -1, -1, -1]) 0 := ⟨fun i _ hi => by
  rcases i with _ | _ | _ | _ | i
  · decide
  · decide
  · decide
  · decide
  · omega, fun i hi => by omega⟩
/-- what the rules that stand for others hold -/
def MrW (rs : List Fac) (ws : List ByteArray) (s : List Fac × List Int) (k : Nat) : Prop :=
  ∀ i, i < k → (s.2.getD i 0 < 0 → mapW ws ((wds rs).getD i []) = []) ∧ (0 ≤ s.2.getD i 0 → (wds s.1).getD (s.2.getD i 0).toNat [] = mapW ws ((wds rs).getD i []))
theorem MrW.step {rs : List Fac} {ws : List ByteArray} {st : List Int} {s0 s : List Fac × List Int} {n k : Nat} (hwf : WF rs) (h : MrW rs ws s k) (hI : MrI s n k) (hst : s0.2 = st) (hw : MlW rs ws s0 4) (hb : ∀ i, i < 4 → -1 ≤ st.getD i 0 ∧ st.getD i 0 < s0.1.length)
    (hpre : ∃ e, s.1 = s0.1 ++ e) {r : Fac} (hr : rs[k]? = some r) : MrW rs ws (mrStep st r s) (k + 1) ∧ ∃ e, (mrStep st r s).1 = s0.1 ++ e := by
  obtain ⟨e, he⟩ := hpre
  have old : ∀ (out : List Fac) (x : Int), (∃ q, out = s.1 ++ q) → ((x < 0 → mapW ws ((wds rs).getD k []) = []) ∧ (0 ≤ x → (wds out).getD x.toNat [] = mapW ws ((wds rs).getD k []))) → MrW rs ws (out, s.2 ++ [x]) (k + 1) := by
    intro out x ⟨q, hq⟩ hx i hi
    simp only
    rw [getD_snoc, hI.st]
    by_cases hik : i < k
    · rw [if_pos hik]
      have := h i hik
      refine ⟨this.1, fun q0 => ?_⟩
      have hbb := hI.b i hik
      rw [hq, wds_pre _ _ (by omega)]
      exact this.2 q0
    · obtain rfl : i = k := by omega
      rw [if_neg hik, if_pos rfl]
      exact hx
  unfold mrStep
  rcases hwf k r hr with ⟨h0, a0, a1, b0, b1⟩ | ⟨c, hc, hl, _, _⟩
  · rw [if_pos h0]
    have hwk := wds_pair hwf hr h0
    have hA := hI.b r.a.toNat (by omega)
    have hB := hI.b r.b.toNat (by omega)
    have wA := h r.a.toNat (by omega)
    have wB := h r.b.toNat (by omega)
    split
    · rename_i hn
      refine ⟨old _ _ ⟨[], by simp⟩ ?_, e, he⟩
      rw [hwk, mapW_app, wA.1 hn, List.nil_append]
      exact wB
    · split
      · rename_i hn1 hn
        refine ⟨old _ _ ⟨[], by simp⟩ ?_, e, he⟩
        rw [hwk, mapW_app, wB.1 hn, List.append_nil]
        exact wA
      · rename_i h1 h2
        refine ⟨old _ _ ⟨_, rfl⟩ ⟨fun q => by omega, fun _ => ?_⟩, e ++ [⟨⟨#[]⟩, s.2.getD r.a.toNat 0, s.2.getD r.b.toNat 0⟩], by rw [he, List.append_assoc]⟩
        rw [Int.toNat_natCast, wds_snoc ⟨by omega, hA.2⟩ ⟨by omega, hB.2⟩ hI.wf, wA.2 (by omega), wB.2 (by omega), hwk, mapW_app]
  · rw [if_neg (by rw [hl]; show ¬ (1 : Nat) = 0; omega)]
    refine ⟨old _ _ ⟨[], by simp⟩ ?_, e, he⟩
    have hq : letN r.l < 4 := by rw [hl]; exact letN_lt (s := ⟨#[c]⟩) hc
    have hwk : (wds rs).getD k [] = [letN r.l] := by rw [wds_one hr hl, hl]; rfl
    have hu : usedL rs (lb (letN r.l)) = true := by
      unfold usedL
      rw [List.any_eq_true]
      refine ⟨r, List.mem_of_getElem? hr, ?_⟩
      rw [decide_eq_true_eq, hl]
      congr 1
      have hn := letB_num hc
      have : lb (letN ⟨#[c]⟩) = c := by
        rw [← UInt8.toNat_inj, letN_one]
        unfold lb
        rw [UInt8.toNat_ofNat']; omega
      rw [this]
    have hlo := hw.lo (letN r.l) hq
    rw [hst] at hlo
    rw [hwk]
    have hmw : mapW ws [letN r.l] = nums (ws.getD (letN r.l) ⟨#[]⟩) := by simp [mapW]
    rw [hmw]
    refine ⟨fun q => ?_, fun q => ?_⟩
    · rcases hlo.1 q with q1 | q1
      · exact q1
      · rw [hu] at q1; cases q1
    · have := hb (letN r.l) hq
      rw [he, wds_pre _ _ (by omega)]
      exact (hlo.2 q).1
theorem mapOk_ws {rs : List Fac} {ws : List ByteArray} (h : mapOk rs ws = true) : ws.length = 4 ∧ (∀ w ∈ ws, okW w = true) ∧ (gOk rs).isSome = true := by
  unfold mapOk at h
  simp only [Bool.and_eq_true, decide_eq_true_eq, List.all_eq_true] at h
  exact ⟨h.2.1, h.2.2, h.1⟩
end Go.Proofs.YtnhkoinjjbfofaaDoor


/-
  The word of a grammar whose letters are replaced: the law; grammars of few rules are valid.
-/
namespace Go.Proofs.YtnhkoinjjbfofaaDoor

theorem trimL_most (rs : List Fac) : (trimL rs).length ≤ rs.length := by
  unfold trimL
  split
  · simp
  · have h1 := outT_len (useT (trK rs [] []).1 rs.length (use0 rs.length (trK rs [] []).2)) (trK rs [] []).1 0 [] (List.replicate rs.length 0)
    have h2 := trK_len rs [] []
    simp only [List.length_nil, Nat.zero_add] at h1 h2
    omega
theorem map_all {rs : List Fac} {ws : List ByteArray} (hok : mapOk rs ws = true) : WF rs ∧ MlI (mapS1 rs ws) 4 ∧ ∀ k, k ≤ rs.length →
    MrW rs ws (mrGo (mapS1 rs ws).2 (rs.take k) ((mapS1 rs ws).1, [])) k ∧ MrI (mrGo (mapS1 rs ws).2 (rs.take k) ((mapS1 rs ws).1, [])) (mapS1 rs ws).1.length k ∧ ∃ e, (mrGo (mapS1 rs ws).2 (rs.take k) ((mapS1 rs ws).1, [])).1 = (mapS1 rs ws).1 ++ e := by
  obtain ⟨hl, hw, hg⟩ := mapOk_ws hok
  obtain ⟨ls, hls⟩ := Option.isSome_iff_exists.1 hg
  have hwf := wf_of (gOk_lens hls).1
  have hI := MlI.go (rs := rs) ws 0 ([], [-1, -1, -1, -1]) MlI.nil (by omega) hw
  have hW := MlW.go (rs := rs) (ws0 := ws) ws 0 ([], [-1, -1, -1, -1]) (MlW.nil rs ws) MlI.nil (by omega) hw rfl
  rw [hl, Nat.zero_add] at hI hW
  have hI' : MlI (mapS1 rs ws) 4 := hI
  have hW' : MlW rs ws (mapS1 rs ws) 4 := hW
  refine ⟨hwf, hI', ?_⟩
  generalize mapS1 rs ws = s1 at *
  intro k
  induction k with
  | zero => exact fun _ => ⟨fun i hi => by omega, ⟨hI'.wf, rfl, fun i hi => by omega, Nat.le_refl _⟩, [], by simp [mrGo]⟩
  | succ k ih =>
    intro hk
    obtain ⟨h1, h2, h3⟩ := ih (by omega)
    have hr : rs[k]? = some rs[k] := List.getElem?_eq_getElem (by omega)
    rw [take_succ_at hr, mrGo_snoc]
    have hle : s1.1.length ≤ (mrGo s1.2 (rs.take k) (s1.1, [])).1.length := by
      obtain ⟨e, he⟩ := h3
      rw [he, List.length_append]; omega
    have s1b := fun i hi => hI'.b i hi
    obtain ⟨h4, _⟩ := h2.step (st := s1.2) (fun i hi => by have := s1b i hi; omega) (hwf k _ hr)
    obtain ⟨h5, h6⟩ := h1.step hwf h2 rfl hW' s1b h3 hr
    exact ⟨h5, h4, h6⟩
/-- a rule's word is at most twice as long as the longest before it -/
theorem wds_pow {rs : List Fac} (hwf : WF rs) : ∀ k, k < rs.length → ((wds rs).getD k []).length ≤ 2 ^ k := by
  intro k
  induction k using Nat.strongRecOn with
  | ind k ih =>
    intro hk
    have hr : rs[k]? = some rs[k] := List.getElem?_eq_getElem hk
    rcases hwf k _ hr with ⟨h0, a0, a1, b0, b1⟩ | ⟨c, _, hl, _, _⟩
    · rw [wds_pair hwf hr h0, List.length_append]
      have e1 := ih rs[k].a.toNat (by omega) (by omega)
      have e2 := ih rs[k].b.toNat (by omega) (by omega)
      obtain ⟨m, rfl⟩ : ∃ m, k = m + 1 := ⟨k - 1, by omega⟩
      have p1 : 2 ^ rs[m + 1].a.toNat ≤ 2 ^ m := Nat.pow_le_pow_right (by omega) (by omega)
      have p2 : 2 ^ rs[m + 1].b.toNat ≤ 2 ^ m := Nat.pow_le_pow_right (by omega) (by omega)
      rw [Nat.pow_succ]; omega
    · rw [wds_one hr hl]
      exact Nat.one_le_two_pow
theorem wds_lens {rs : List Fac} (hwf : WF rs) {k : Nat} (hk : k < rs.length) : (full 0 lenF lenG rs).getD k 0 = (((wds rs).getD k []).length : Int) :=
  full_hom (d := (0 : Int)) (F := lenF) (G := lenG) hwf (fun u => (u.length : Int)) (fun k _ => rfl) (fun u v r _ _ _ _ => by simp [lenG]) k hk
theorem ok_of {rs : List Fac} (hwf : WF rs) (hn : rs.length ≤ 400) (hb : ∀ k, k < rs.length → ((wds rs).getD k []).length ≤ 1000000000000000) : (gOk rs).isSome = true := by
  unfold gOk
  rw [if_neg (by omega)]
  exact gLens_of hwf (fun k hk => by rw [wds_lens hwf hk]; have := hb k hk; omega) rs.length 0 (by omega)
theorem small_ok {rs : List Fac} (hwf : WF rs) (hn : rs.length ≤ 49) : (gOk rs).isSome = true :=
  ok_of hwf (by omega) fun k hk => by
    have h1 := wds_pow hwf k hk
    have h2 : 2 ^ k ≤ 2 ^ 48 := Nat.pow_le_pow_right (by omega) (by omega)
    have h3 : (2 : Nat) ^ 48 ≤ 1000000000000000 := by decide
    omega
theorem trim_word {rs : List Fac} (hwf : WF rs) (h0 : 0 < rs.length) : WF (trimL rs) ∧ 0 < (trimL rs).length ∧ (trimL rs).length ≤ rs.length ∧ wdN (trimL rs) = wdN rs := by
  obtain ⟨h1, h2, h3, _⟩ := trim_val [] wdF wdG (fun _ _ _ _ => rfl) hwf h0
  have h4 : (trimL rs).length ≤ rs.length := trimL_most rs
  refine ⟨h1, h2, h4, ?_⟩
  unfold wdN
  rw [if_neg (by intro e; rw [e] at h2; simp at h2), if_neg (by intro e; rw [e] at h0; simp at h0)]
  exact h3
/-- the code is told -/
theorem map_word {rs : List Fac} {ws : List ByteArray} (hok : mapOk rs ws = true) (hC : mapC rs ws = 0) : (gOk (mapF rs ws)).isSome = true ∧ wdN (mapF rs ws) = mapW ws (wdN rs) := by
  obtain ⟨hwf, hI, hall⟩ := map_all hok
  obtain ⟨h1, h2, _⟩ := hall rs.length (Nat.le_refl _)
  rw [List.take_of_length_le (Nat.le_refl _)] at h1 h2
  unfold mapC at hC
  unfold mapF
  rw [if_neg (by rw [hok]; decide)] at hC ⊢
  have hS : mapS2 rs ws = mrGo (mapS1 rs ws).2 rs ((mapS1 rs ws).1, []) := rfl
  rw [← hS] at h1 h2
  unfold mapT at hC ⊢
  generalize mapS2 rs ws = s2 at *
  split at hC
  · cases hC
  rename_i h400
  rw [if_neg h400]
  have hlen := h2.st
  by_cases hz : s2.2.length = 0 ∨ lastI s2.2 < 0
  · rw [if_pos hz]
    refine ⟨rfl, ?_⟩
    have hw0 : wdN ([] : List Fac) = [] := rfl
    rw [hw0]
    unfold wdN
    split
    · rfl
    · rename_i hne
      have hpos : 0 < rs.length := List.length_pos_iff.2 hne
      rcases hz with hz | hz
      · omega
      · have := (h1 (rs.length - 1) (by omega)).1 (by unfold lastI at hz; rw [hlen] at hz; exact hz)
        exact this.symm
  · rw [if_neg hz] at hC ⊢
    have hne : rs ≠ [] := fun e => hz (.inl (by rw [hlen, e]; rfl))
    have hpos : 0 < rs.length := List.length_pos_iff.2 hne
    have hsl0 : 0 ≤ lastI s2.2 := by
      rcases Int.lt_or_le (lastI s2.2) 0 with h | h
      · exact absurd (.inr h) hz
      · exact h
    have hsl1 : lastI s2.2 < s2.1.length := by
      have := h2.b (rs.length - 1) (by omega)
      unfold lastI
      rw [hlen]; exact this.2
    unfold limC at hC
    unfold limF
    have hg : (gOk (trimL (s2.1.take ((lastI s2.2).toNat + 1)))).isSome = true := by
      rcases hb : (gOk (trimL (s2.1.take ((lastI s2.2).toNat + 1)))).isSome with _ | _
      · rw [hb] at hC; exact absurd hC (by decide)
      · rfl
    rw [hg, if_pos rfl]
    refine ⟨hg, ?_⟩
    have hwt := wf_take h2.wf ((lastI s2.2).toNat + 1)
    have hlt : (s2.1.take ((lastI s2.2).toNat + 1)).length = (lastI s2.2).toNat + 1 := by rw [List.length_take]; omega
    obtain ⟨_, _, _, e⟩ := trim_word hwt (by omega)
    rw [e]
    have hv := (h1 (rs.length - 1) (by omega)).2 (by unfold lastI at hsl0; rw [hlen] at hsl0; exact hsl0)
    unfold wdN
    rw [if_neg (by intro q; rw [q] at hlt; simp at hlt), if_neg hne, hlt, Nat.add_sub_cancel, wds_take (by omega) (by omega), ← hv]
    unfold lastI
    rw [hlen]
/-- few rules, short words: there is no limit -/
theorem map_small {rs : List Fac} {ws : List ByteArray} (hok : mapOk rs ws = true) (hn : (mapS2 rs ws).1.length ≤ 49) : mapC rs ws = 0 := by
  obtain ⟨hwf, hI, hall⟩ := map_all hok
  obtain ⟨h1, h2, _⟩ := hall rs.length (Nat.le_refl _)
  rw [List.take_of_length_le (Nat.le_refl _)] at h1 h2
  have hS : mapS2 rs ws = mrGo (mapS1 rs ws).2 rs ((mapS1 rs ws).1, []) := rfl
  rw [← hS] at h1 h2
  unfold mapC mapT
  rw [if_neg (by rw [hok]; decide), if_neg (by omega)]
  generalize mapS2 rs ws = s2 at *
  split
  · rfl
  · rename_i hz
    have hlen := h2.st
    have hpos : 0 < rs.length := by
      rcases Nat.eq_zero_or_pos rs.length with h | h
      · exact absurd (.inl (by omega)) hz
      · exact h
    have hsl0 : 0 ≤ lastI s2.2 := by
      rcases Int.lt_or_le (lastI s2.2) 0 with h | h
      · exact absurd (.inr h) hz
      · exact h
    have hsl1 : lastI s2.2 < s2.1.length := by
      have := h2.b (rs.length - 1) (by omega)
      unfold lastI
      rw [hlen]; exact this.2
    have hwt := wf_take h2.wf ((lastI s2.2).toNat + 1)
    have hlt : (s2.1.take ((lastI s2.2).toNat + 1)).length = (lastI s2.2).toNat + 1 := by rw [List.length_take]; omega
    obtain ⟨e1, _, e3, _⟩ := trim_word hwt (by omega)
    unfold limC
    rw [small_ok e1 (by omega)]; rfl
end Go.Proofs.YtnhkoinjjbfofaaDoor


/-
  The grammar of a plain word in the program: the small functions.
-/
namespace Go.Proofs.YtnhkoinjjbfofaaDoor
open Go.RowKit

theorem conv_letter (W : World) (g c : Nat) (b : UInt8) (h : W.cell? ⟨g, 0, none⟩ = some (.int .u8 (b.toNat : Int))) : (convert 22 9 (.slice (some ⟨g, 0, none⟩) 1 c)).run Tryd.prog W = .ok (.string ⟨#[b]⟩) W := by
  refine run_convert_bytes_back (P := Tryd.prog) W _ _ 5 ⟨g, 0, none⟩ c [b] Tryd.underlying22 Tryd.underlying5 Tryd.underlying9 fun j hj => ?_
  obtain rfl : j = 0 := by simpa using hj
  simp [Addr.add, h]
set_option maxHeartbeats 1000000 in
set_option maxRecDepth 100000 in
theorem letter_any (c : UInt8) (w : World) : Calls Tryd.prog 48 #[.int .u8 (c.toNat : Int)] w (Ret (Fac.val (ruleC c)) w) := by
  go_enter Tryd.func48, Tryd.ntmps48
  have hcv := conv_letter ((w.alloc (.cells #[.string ⟨#[]⟩, .int .i64 0, .int .i64 0] 48)).alloc (.cells #[.int .u8 (c.toNat : Int)] 5)) (w.heap.size + 1) 1 c (by simp)
  go_wp2_with fail
  refine bodyPost_ret (v := Fac.val (ruleC c)) (by simp [results, Tryd.results48, go_sem, Fac.val, ruleC]; try rfl) rfl ⟨rfl, ?_⟩
  (repeat first | exact Below.refl _ _ | assumption | refine Below.drew ?_ | refine Below.alloc ?_ (by first | exact Nat.le_refl _ | (simp; done) | omega | (simp; omega)) _ | refine Below.setCell ?_ (by first | exact Nat.le_refl _ | (simp; done) | omega | (simp; omega)) _)
theorem pairInt_any (a b : Int) (w : World) (ha : -9223372036854775808 ≤ a ∧ a ≤ 9223372036854775807) (hb : -9223372036854775808 ≤ b ∧ b ≤ 9223372036854775807) : Calls Tryd.prog 51 #[.int .i64 a, .int .i64 b] w (Ret (Fac.val ⟨⟨#[]⟩, a, b⟩) w) := by
  have u1 : IntKind.i64.wrap a = a := IntWalk.i64_in _ (by omega)
  have u2 : IntKind.i64.wrap b = b := IntWalk.i64_in _ (by omega)
  go_enter Tryd.func51, Tryd.ntmps51
  go_wp2
  refine bodyPost_ret (v := Fac.val ⟨⟨#[]⟩, a, b⟩) (by simp [results, Tryd.results51, go_sem, Fac.val]; try rfl) rfl ⟨rfl, ?_⟩
  (repeat first | exact Below.refl _ _ | assumption | refine Below.drew ?_ | refine Below.alloc ?_ (by first | exact Nat.le_refl _ | (simp; done) | omega | (simp; omega)) _ | refine Below.setCell ?_ (by first | exact Nat.le_refl _ | (simp; done) | omega | (simp; omega)) _)
set_option maxHeartbeats 1000000 in
set_option maxRecDepth 100000 in
theorem stringslite_any (s : ByteArray) (c : Int) (w : World) : Calls Tryd.prog 67 #[.string s, .int .u8 c] w fun e w' => e = .returned (.int .i64 (Lib.indexByte s.data.toList c.toNat.toUInt8)) ∧ w' = w := by
  go_enter Tryd.func67, Tryd.ntmps67
  go_wp2
  rw [run_callFunc_extern Tryd.func84 (by kernel_rfl) (by kernel_rfl) (by kernel_rfl) (e := Extern.BytealgIndexByte.indexByte) (by kernel_rfl), Lib.run_indexByteString]
  simp only [Result.andThen]
  rw [Oper.upon_value]
  go_wp2
  go_ret
  exact ⟨rfl, rfl⟩
theorem indexByte_any (s : ByteArray) (c : Int) (z : Int) (w : World) (hz : Lib.indexByte s.data.toList c.toNat.toUInt8 = z) : Calls Tryd.prog 47 #[.string s, .int .u8 c] w (Ret (.int .i64 z) w) := by
  have HZ := Lib.hid hz; clear hz
  go_enter Tryd.func47, Tryd.ntmps47
  go_wp2_with (go_at_call 67; refine (stringslite_any s c _).mono ?_; rintro e w' ⟨rfl, rfl⟩; rw [HZ.out])
  go_ret
  exact ⟨rfl, Below.refl _ _⟩
theorem indexByte_mem (l : List UInt8) (c : UInt8) : (0 ≤ Lib.indexByte l c) ↔ c ∈ l := by
  induction l with
  | nil => simp [Lib.indexByte]
  | cons b l ih =>
    unfold Lib.indexByte
    have := Lib.indexByte_ge l c
    by_cases hb : b = c
    · simp [hb]
    · have hb' : (b == c) = false := by simpa using hb
      rw [hb']
      simp only [Bool.false_eq_true, if_false, List.mem_cons, (Ne.symm hb : c ≠ b), false_or, ← ih]
      by_cases h1 : Lib.indexByte l c = -1
      · simp [h1]
      · have : (Lib.indexByte l c == -1) = false := by simpa using h1
        rw [this]; simp; omega
set_option maxHeartbeats 1000000 in
set_option maxRecDepth 100000 in
theorem indexR_any (A : Option Addr) (n c : Nat) (rs : List Fac) (f : Fac) (w : World) (hn : n ≤ 1048576) (hr : Rd w w.heap.size A n 3 Fac.cells rs) :
    Calls Tryd.prog 50 #[.slice A n c, .agg #[.string f.l, .int .i64 f.a, .int .i64 f.b]] w (Ret (.int .i64 (ixR f rs 0)) w) := by
  have hl := Lib.hid hr.len
  have HR := Lib.hid hr; clear hr
  go_enter Tryd.func50, Tryd.ntmps50
  go_wp2_with fail
  refine named fun w0 H0 => ?_
  have B0 := Lib.hid (show Blk w0 w.heap.size 48 #[.string f.l, .int .i64 f.a, .int .i64 f.b] by rw [H0.out]; exact Blk.new _ _ _)
  have hb0 : Below w.heap.size w w0 := by rw [H0.out]; (repeat first | exact Below.refl _ _ | assumption | refine Below.drew ?_ | refine Below.alloc ?_ (by first | exact Nat.le_refl _ | (simp; done) | omega | (simp; omega)) _ | refine Below.setCell ?_ (by first | exact Nat.le_refl _ | (simp; done) | omega | (simp; omega)) _)
  clear H0
  go_loopw [8] (fun i w' => ∃ k : Nat, i = .int .i64 k ∧ k ≤ n ∧ Below w0.heap.size w0 w' ∧ Hid (ixR f (rs.drop k) k = ixR f rs 0)) (fun i _ => n - (intOf i).toNat)
  case atStart => exact ⟨0, rfl, by omega, Below.refl _ _, Lib.hid rfl⟩
  case round =>
    obtain ⟨k, rfl, hk, hb, H⟩ := hrel
    have hbb := hb0.trans (hb.mono hb0.size)
    by_cases hlt : k < n
    · obtain ⟨b, o, x, rfl, hB, gx, c0, c1, c2⟩ := (HR.out.next hbb).fac hlt
      have H' := Lib.hid (show (if f = x then (k : Int) else ixR f (rs.drop (k + 1)) (k + 1)) = ixR f rs 0 by
        rw [← H.out, drop_cons gx]; rfl)
      clear gx H
      have B1 := B0.out.next hb
      obtain ⟨d0, d1, d2⟩ := B1.three
      have l1 := B1.lt
      have hup := upc wr.heap.size wr
      have i0 : (0 : Int) ≤ (k : Int) := by omega
      have i1 : (k : Int) < (n : Int) := by omega
      by_cases he : f = x
      · have he' := Lib.hid (show decide (f = x) = true by simpa using he)
        have hne := fun W => (eql_rule f x W).trans (by rw [he'.out])
        have e2 := Lib.hid (show ixR f rs 0 = (k : Int) by rw [← H'.out, if_pos he])
        clear he B1
        go_wp2_with fail
        refine wp_region_up wr.heap.size (by kernel_rfl) (by kernel_rfl) ?_
        repeat (go_big_quiet_step (fail))
        refine wpQuiet_nil ?_
        intro w2 hw2
        have hb2 := up_of hw2
        go_wp2
        go_ret
        exact ⟨ret_int e2.out.symm, hbb.trans (hb2.mono hbb.size)⟩
      · have he' := Lib.hid (show decide (f = x) = false by simpa using he)
        have hne := fun W => (eql_rule f x W).trans (by rw [he'.out])
        have e2 := Lib.hid (show ixR f (rs.drop (k + 1)) (k + 1) = ixR f rs 0 by rw [← H'.out, if_neg he])
        clear he B1
        go_wp2_with fail
        refine wp_region_up wr.heap.size (by kernel_rfl) (by kernel_rfl) ?_
        repeat (go_big_quiet_step (fail))
        refine wpQuiet_nil ?_
        intro w2 hw2
        have hb2 := up_of hw2
        go_wp2
        go_roundw
        case rel => exact ⟨k + 1, by go_num, by omega, hb.trans (hb2.mono hb.size), e2⟩
        case measure => simp [intOf]; omega
    · have e2 := Lib.hid (show ixR f rs 0 = -1 by rw [← H.out, List.drop_of_length_le (by rw [hl.out]; omega)]; rfl)
      go_wp2
      go_ret
      exact ⟨ret_int e2.out.symm, hbb⟩
end Go.Proofs.YtnhkoinjjbfofaaDoor


/-
  The grammar of a plain word in the program.
-/
namespace Go.Proofs.YtnhkoinjjbfofaaDoor
open Go.RowKit

/-- a slice of the call's own that is the beginning of one which is appended to -/
theorem own_prefix {W W' : World} {base E sz k n c0 c : Nat} {A0 A : Option Addr} {xs0 ys : List Value} (hsz : 0 < sz) (hL : W.ownsRow base E sz (.slice A0 k c0) k xs0) (hA : W.ownsRow base E sz (.slice A n c) n (xs0 ++ ys))
    (hA' : W'.ownsRow base E sz (.slice A n c) n (xs0 ++ ys)) (hg : W.grownBy W' (Value.slice A n c).ownBlock) : W'.ownsRow base E sz (.slice A0 k c0) k xs0 := by
  rcases hL.2 with ⟨hnil, hk⟩ | ⟨g0, cap0, cur0, hv0, hb0, hh0, hk0, hm0, hs0, ht0⟩
  · rw [hnil] at hL ⊢
    exact ⟨hL.1, .inl ⟨rfl, hk⟩⟩
  · by_cases hne : (Value.slice A n c).ownBlock = some g0
    · rcases hA'.2 with ⟨hnil, _⟩ | ⟨g1, cap1, cur1, hv1, hb1, hh1, hk1, hm1, hs1, ht1⟩
      · rw [hnil] at hne; cases hne
      · rcases hA.2 with ⟨hnil, _⟩ | ⟨g2, cap2, cur2, hv2, hb2, hh2, hk2, hm2, hs2, ht2⟩
        · rw [hnil] at hne; cases hne
        · rw [hv1] at hne
          have e1 : g1 = g0 := by simpa [Value.ownBlock] using hne
          have e2 : g1 = g2 ∧ cap1 = cap2 := by
            rw [hv1] at hv2; injection hv2 with q1 q2 q3; injection q1 with q1; injection q1 with q1; exact ⟨q1, q3⟩
          obtain ⟨e2, e3⟩ := e2
          subst e1 e2 e3
          have ec : cur0 = cur2 := by
            rw [hh0] at hh2; injection hh2 with q; injection q with q
          subst ec
          have ecap : cap0 = cap1 := by
            have := hs0.symm.trans hs2
            exact Nat.eq_of_mul_eq_mul_right hsz this
          subst ecap
          refine ⟨hL.1, .inr ⟨g1, cap0, cur1, hv0, hb0, hh1, hk0, hm0, hs1, ?_⟩⟩
          have hkn : k * sz ≤ n * sz := by
            have h1 := hA.1
            have h2 := hL.1
            rw [List.length_append] at h1; omega
          have e5 : cur1.toList.take (k * sz) = (cur1.toList.take (n * sz)).take (k * sz) := by rw [List.take_take, Nat.min_eq_left hkn]
          rw [e5, ht1, ← hL.1]
          exact List.take_left
    · refine hL.kept hg (.inr ?_)
      rw [hv0]
      intro e; exact hne e.symm

/-- the letters up to one -/
def ksT (w : List UInt8) (c : Int) : List UInt8 := [97, 98, 99, 100].filter (fun u => decide (u ∈ w) && decide ((u.toNat : Int) < c))
theorem ksT_first (w : List UInt8) : ksT w 97 = [] := by simp [ksT]
theorem ksT_last (w : List UInt8) : ksT w 101 = ksP w := by
  unfold ksT ksP
  apply List.filter_congr
  intro u hu
  have : (u.toNat : Int) < 101 := by
    simp only [List.mem_cons, List.not_mem_nil, or_false] at hu
    rcases hu with rfl | rfl | rfl | rfl <;> decide
  simp [this]
theorem ksT_step (w : List UInt8) (u : UInt8) (h : letB u = true) : ksT w ((u.toNat : Int) + 1) = if u ∈ w then ksT w u.toNat ++ [u] else ksT w u.toNat := by
  have h : (97 : Int) ≤ u.toNat ∧ (u.toNat : Int) ≤ 100 := by simpa [letB] using h
  have h4 : u = 97 ∨ u = 98 ∨ u = 99 ∨ u = 100 := by
    simp only [← UInt8.toNat_inj]
    have : u.toNat = 97 ∨ u.toNat = 98 ∨ u.toNat = 99 ∨ u.toNat = 100 := by omega
    exact this
  unfold ksT
  rcases h4 with rfl | rfl | rfl | rfl
  all_goals
    by_cases h1 : (97 : UInt8) ∈ w <;> by_cases h2 : (98 : UInt8) ∈ w <;> by_cases h3 : (99 : UInt8) ∈ w <;> by_cases h4 : (100 : UInt8) ∈ w <;> simp [h1, h2, h3, h4]
theorem ksT_le (w : List UInt8) (c : Int) : (ksT w c).length ≤ 4 := by
  unfold ksT; exact Nat.le_trans (List.length_filter_le _ _) (by simp)

theorem okW_at {s : ByteArray} (h : okW s = true) {i : Nat} (hi : i < s.size) : letB s[i] = true := by
  unfold okW at h
  simp only [Bool.and_eq_true, List.all_eq_true] at h
  exact h.2 _ (List.mem_of_getElem? (at_byte s i hi))
theorem okW_size {s : ByteArray} (h : okW s = true) : s.size ≤ 2000 := by
  unfold okW at h
  simp only [Bool.and_eq_true, decide_eq_true_eq] at h
  exact h.1
/-- 'plain' under way -/
structure PlW (w W : World) (s : ByteArray) (A : Option Addr) (n c : Nat) (rs : List Fac) : Prop where
  q : W.ownsRow w.heap.size 48 3 (.slice A n c) n (rs.flatMap Fac.cells)
  s : Blk W w.heap.size 9 #[.string s]
  o : Blk W (w.heap.size + 1) 26 #[.slice none 0 0]
  g : Blk W (w.heap.size + 2) 26 #[.slice A n c]
  e : Below w.heap.size w W
section
variable {w W W' : World} {s : ByteArray} {A : Option Addr} {n c : Nat} {rs : List Fac}
theorem PlW.next (h : PlW w W s A n c rs) (hb : Below W.heap.size W W') : PlW w W' s A n c rs :=
  ⟨own_next h.q hb, h.s.next hb, h.o.next hb, h.g.next hb, h.e.trans (hb.mono h.e.size)⟩
theorem PlW.alloc (h : PlW w W s A n c rs) (o : Obj) : PlW w (W.alloc o) s A n c rs := h.next ((Below.refl _ _).alloc (Nat.le_refl _) _)
theorem PlW.push {A8 : Option Addr} {k8 c8 : Nat} {rs' : List Fac} (h : PlW w W s A n c rs) (hq : W'.ownsRow w.heap.size 48 3 (.slice A8 k8 c8) k8 (rs'.flatMap Fac.cells)) (hg : W.grownBy W' (Value.slice A n c).ownBlock) :
    PlW w (W'.setCell ⟨w.heap.size + 2, 0, none⟩ (.slice A8 k8 c8)) s A8 k8 c8 rs' := by
  have hs' := h.s.grown hg (own_blk_ne h.q h.s (by decide))
  have ho' := h.o.grown hg (own_blk_ne h.q h.o (by decide))
  have hg' := h.g.grown hg (own_blk_ne h.q h.g (by decide))
  have he' := h.e.grown hg h.e.size (own_ge h.q)
  have hg2 := gb_set W' (w.heap.size + 2) 0 (.slice A8 k8 c8)
  exact ⟨own_kept' hq hg' (by decide) _, hs'.grown hg2 (by intro e; injection e with e; omega), ho'.grown hg2 (by intro e; injection e with e; omega), hg'.set_ 0 _, he'.setCell (by simp) _⟩
end
set_option maxHeartbeats 1000000 in
set_option maxRecDepth 100000 in
theorem plainOf_any (L S : Nat) (z : Int) (i k c0 : Nat) (A0 : Option Addr) (s : ByteArray) (w : World) (hz : z = (i : Int)) (hL : Blk w L 24 #[.slice A0 k c0]) (hS : Blk w S 9 #[.string s]) (hk : k ≤ 1048576)
    (hr : Rd w w.heap.size A0 k 3 Fac.cells (lettersP s.data.toList)) (hi : i < s.size) (hs : s.size ≤ maxLen) (hl : letB s[i] = true) :
    Calls Tryd.prog 49 #[.int .i64 z, .pointer (some ⟨L, 0, none⟩), .pointer (some ⟨S, 0, none⟩)] w (Ret (.int .i64 (atP s.data.toList s[i])) w) := by
  subst hz
  unfold maxLen at hs
  have hmem : s[i] ∈ s.data.toList := List.mem_of_getElem? (at_byte s i hi)
  have e := Lib.hid (atP_ix hmem hl)
  have l0 := hL.cell 0
  have lL := hL.lt
  have s0 := hS.cell 0
  have lS := hS.lt
  have HR := Lib.hid hr
  have i0 : (0 : Int) ≤ (i : Int) := by omega
  have i1 : (i : Int) < (s.size : Int) := by omega
  have hup := upc w.heap.size w
  clear hmem hr hL hS
  go_enter Tryd.func49, Tryd.ntmps49
  go_wp2_with fail
  refine wp_region_up w.heap.size (by kernel_rfl) (by kernel_rfl) ?_
  repeat (go_big_quiet_step ((first | (go_at_call 48; exact Calls.up (Nat.le_refl _) (letter_any s[i] _)) | (go_at_call 50; exact Calls.up (Nat.le_refl _) (indexR_any A0 k c0 (lettersP s.data.toList) (ruleC s[i]) _ hk ((HR.out.below (Up.h _)).more (Up.h _).size))))))
  refine wpQuiet_nil ?_
  intro w4 hup_w4
  have hb4 := up_of hup_w4
  go_wp2_with fail
  go_ret
  exact ⟨ret_int e.out, hb4⟩
set_option maxHeartbeats 4000000 in
set_option maxRecDepth 100000 in
theorem plain_any (s : ByteArray) (w : World) (ho : okW s = true) : Calls Tryd.prog 33 #[.string s] w (RetG w (plainL s.data.toList)) := by
  have hs := okW_size ho
  have HL := Lib.hid (fun (i : Nat) (hi : i < s.size) => okW_at ho hi)
  clear ho
  go_enter Tryd.func33, Tryd.ntmps33
  go_wp2_with fail
  refine named fun w0 H0 => ?_
  have P0 := Lib.hid (show PlW w w0 s none 0 0 [] by
    rw [H0.out]
    refine ⟨World.ownsRow_nil _ _ _ _, ?_, ?_, ?_, by (repeat first | exact Below.refl _ _ | assumption | refine Below.drew ?_ | refine Below.alloc ?_ (by first | exact Nat.le_refl _ | (simp; done) | omega | (simp; omega)) _ | refine Below.setCell ?_ (by first | exact Nat.le_refl _ | (simp; done) | omega | (simp; omega)) _)⟩
    · exact ((Blk.new w _ _).alloc _).alloc _
    · simpa using (Blk.new (w.alloc (.cells #[.string s] 9)) 26 #[.slice none 0 0]).alloc _
    · simpa using Blk.new ((w.alloc (.cells #[.string s] 9)).alloc (.cells #[.slice none 0 0] 26)) 26 #[.slice none 0 0])
  clear H0
  go_loopw [4] (fun c_ w' => ∃ (c : Int) (A : Option Addr) (n cp : Nat), c_ = .int .u8 c ∧ 97 ≤ c ∧ c ≤ 101 ∧ n ≤ 4 ∧ Hid ((ksT s.data.toList c).length = n) ∧ Hid (PlW w w' s A n cp ((ksT s.data.toList c).map ruleC))) (fun c_ _ => (101 - intOf c_).toNat)
  case atStart => exact ⟨97, none, 0, 0, rfl, by omega, by omega, by omega, Lib.hid (by rw [ksT_first]; rfl), by rw [ksT_first]; exact P0⟩
  case round =>
    obtain ⟨c, A, n, cp, rfl, hc0, hc1, hn4, hnl, P1⟩ := hrel
    have s0 := P1.out.s.cell 0
    have ls := P1.out.s.lt
    by_cases hlt : c ≤ 100
    · obtain ⟨u, hu⟩ : ∃ u : UInt8, (u.toNat : Int) = c := ⟨UInt8.ofNat c.toNat, by simp; omega⟩
      subst hu
      have hlb : letB u = true := by simp [letB]; omega
      have Hst := Lib.hid (ksT_step s.data.toList u hlb)
      obtain ⟨z, hz⟩ : ∃ z, Lib.indexByte s.data.toList ((u.toNat : Int)).toNat.toUInt8 = z := ⟨_, rfl⟩
      have hzm := indexByte_mem s.data.toList u
      rw [show ((u.toNat : Int)).toNat.toUInt8 = u by simp] at hz
      rw [hz] at hzm
      have HZ := Lib.hid (show Lib.indexByte s.data.toList ((u.toNat : Int)).toNat.toUInt8 = z by rw [show ((u.toNat : Int)).toNat.toUInt8 = u by simp]; exact hz)
      have HZM := Lib.hid hzm
      clear hz hzm hlb
      by_cases hzz : 0 ≤ z
      · have Hst2 := Lib.hid (show ksT s.data.toList ((u.toNat : Int) + 1) = ksT s.data.toList u.toNat ++ [u] by rw [Hst.out, if_pos (HZM.out.1 hzz)])
        go_upto_if 17 with (go_at_call 47; refine (indexByte_any s _ z _ HZ.out).mono ?_; rintro e w1 ⟨rfl, hb1⟩)
        have P2 := Lib.hid (P1.out.next hb1)
        have d0 := P2.out.g.cell 0
        have l0 := P2.out.g.lt
        have P3 := Lib.hid (P2.out.next (Below.refl _ _).drew)
        have lc := fun W => letter_any u W
        obtain ⟨y, hy⟩ : ∃ y, ruleC u = y := ⟨_, rfl⟩
        rw [hy] at lc
        have LC := Lib.hid lc
        have HY := Lib.hid hy
        clear lc hy
        have zk : (n + 1) * 32 ≤ 140737488355328 := by omega
        have zkm : n + 1 ≤ maxLen := by unfold maxLen; omega
        go_wp2_with fail
        go_region_law
          (first
            | (refine step_push (by rfl) _ _ _ (by rfl) w.heap.size 48 3 32 elem_rule Fac.cells A n cp ((ksT s.data.toList u.toNat).map ruleC) (by rfl) P6.out.q _ y #[.string y.l, .int .i64 y.a, .int .i64 y.b] 48 (0, 0) (by rfl) (heap_alloc_new _ _) rfl rfl (one_fac _) (by omega) zk zkm P6.out.e.size ?_
               intro A8 c8 w8 own8 hg8 old8
               have P5 := Lib.hid (P6.out.push own8 hg8)
               have B5 := P6.out.g.grown hg8 (own_blk_ne P6.out.q P6.out.g (by decide))
               have d5 := B5.cell 0
               have f5 := B5.frozen
               have l5 := B5.lt)
            | (go_simp
               go_wp2_with (go_at_call 48; refine (LC.out _).mono ?_; rintro e w4 ⟨rfl, hb4⟩)
               have P4 := Lib.hid (P3.out.next hb4)
               have P6 := Lib.hid (P4.out.alloc (.cells #[.string y.l, .int .i64 y.a, .int .i64 y.b] 48))
               have d4 := P4.out.g.cell 0
               have l4 := P4.out.g.lt))
        all_goals
          have e5 := Lib.hid (show (ksT s.data.toList u.toNat).map ruleC ++ [y] = (ksT s.data.toList ((u.toNat : Int) + 1)).map ruleC by rw [Hst2.out, List.map_append, ← HY.out]; rfl)
          have hn4' : n + 1 ≤ 4 := by
            have h1 := ksT_le s.data.toList ((u.toNat : Int) + 1)
            rw [Hst2.out, List.length_append, hnl.out] at h1; exact h1
          have hnl' := Lib.hid (show (ksT s.data.toList ((u.toNat : Int) + 1)).length = n + 1 by rw [Hst2.out, List.length_append, hnl.out]; rfl)
          go_wp2_with fail
          go_roundw
          case rel => exact ⟨(u.toNat : Int) + 1, A8, n + 1, c8, by go_num, by omega, by omega, hn4', hnl', by rw [← e5.out]; exact P5⟩
          case measure => simp [intOf]; omega
      · have Hst2 := Lib.hid (show ksT s.data.toList ((u.toNat : Int) + 1) = ksT s.data.toList u.toNat by rw [Hst.out, if_neg (fun h => hzz (HZM.out.2 h))])
        go_wp2_with (go_at_call 47; refine (indexByte_any s _ z _ HZ.out).mono ?_; rintro e w1 ⟨rfl, hb1⟩)
        have P2 := Lib.hid (P1.out.next hb1)
        go_roundw
        case rel => exact ⟨(u.toNat : Int) + 1, A, n, cp, by go_num, by omega, by omega, hn4, by rw [Hst2.out]; exact hnl, by rw [Hst2.out]; exact P2⟩
        case measure => simp [intOf]; omega
    · obtain rfl : c = 101 := by omega
      have hK := ksT_last s.data.toList
      rw [hK] at hnl P1
      clear hK
      have d0 := P1.out.g.cell 0
      have l0 := P1.out.g.lt
      go_wp2_with fail
      refine named fun w2 H2 => ?_
      have P2 := Lib.hid (show PlW w w2 s A n cp (lettersP s.data.toList) by rw [H2.out]; exact P1.out.alloc _)
      have BL := Lib.hid (show Blk w2 wr.heap.size 24 #[.slice A n cp] by rw [H2.out]; exact Blk.new _ _ _)
      have hLw : w.heap.size + 2 < wr.heap.size := l0
      clear H2 P1 d0 l0 hlt hc0 hc1
      generalize wr.heap.size = L at *
      have LP2 := Lib.hid P2.out.q
      have hll := Lib.hid (show (lettersP s.data.toList).length = n by rw [← hnl.out]; simp [lettersP])
      obtain ⟨bf0, hbf0, hpl0⟩ : ∃ bf : Int, ((∀ h : 0 < s.size, bf = atP s.data.toList s[0]) ∧ (s.size = 0 → bf = 0)) ∧ lettersP s.data.toList ++ pairsP s.data.toList (s.data.toList.drop 1) bf n = plainL s.data.toList := by
        by_cases h0 : 0 < s.size
        · refine ⟨atP s.data.toList s[0], ⟨fun _ => rfl, fun h => by omega⟩, ?_⟩
          have := drop_cons (at_byte s 0 h0)
          rw [List.drop_zero] at this
          generalize hq : s.data.toList.drop (0 + 1) = q at this
          unfold plainL
          rw [← hnl.out]
          split
          · rename_i h; rw [h] at this; cases this
          · rename_i c cs h
            have h2 := h.symm.trans this
            injection h2 with h3 h4
            rw [← h3, ← h4]
        · refine ⟨0, ⟨fun h => absurd h h0, fun _ => rfl⟩, ?_⟩
          have : s.data.toList = [] := List.eq_nil_of_length_eq_zero (by rw [byte_len]; omega)
          rw [this]; rfl
      go_loopw [7] (fun i_ w' => ∃ (i : Nat) (A' : Option Addr) (n' cp' : Nat) (rs more : List Fac) (bf : Int), i_ = .int .i64 i ∧ 1 ≤ i ∧ (i ≤ s.size ∨ i = 1) ∧ Hid (n' + 1 = n + i) ∧ Hid (rs = lettersP s.data.toList ++ more) ∧ Hid (rs.length = n') ∧
        Hid (PlW w w' s A' n' cp' rs) ∧ Hid (Blk w' L 24 #[.slice A n cp]) ∧ Hid (w'.ownsRow w.heap.size 48 3 (.slice A n cp) n ((lettersP s.data.toList).flatMap Fac.cells)) ∧
        Hid ((i = 1 → ∀ h : 0 < s.size, bf = atP s.data.toList s[0]) ∧ (i ≠ 1 → bf = (n' : Int) - 1)) ∧ Hid (rs ++ pairsP s.data.toList (s.data.toList.drop i) bf n' = plainL s.data.toList)) (fun i_ _ => s.size - (intOf i_).toNat)
      case atStart =>
        exact ⟨1, A, n, cp, _, [], bf0, rfl, by omega, by omega, Lib.hid rfl, Lib.hid (by simp), hll, P2, BL, LP2, Lib.hid ⟨fun _ h => hbf0.1 h, fun h => absurd rfl h⟩, Lib.hid hpl0⟩
      case round =>
        obtain ⟨i, A', n', cp', rs, more, bf, rfl, hi1, hi2, hn', hrs, hrl, PR, BR, LR, hbf, HQ⟩ := hrel
        have s1 := PR.out.s.cell 0
        have ls1 := PR.out.s.lt
        have g1 := PR.out.g.cell 0
        have lg1 := PR.out.g.lt
        have o1 := PR.out.o.cell 0
        have f1 := PR.out.o.frozen
        by_cases hlt : i < s.size
        · have hat := fun (j : Nat) (hj : j < s.size) => atP_lt (List.mem_of_getElem? (at_byte s j hj)) (HL.out j hj)
          have hat0 := hat 0 (by omega)
          have hati := hat i hlt
          have hkl : (ksP s.data.toList).length = n := hnl.out
          rw [hkl] at hat0 hati
          have hn1 : 1 ≤ n := by omega
          have hn1' : 1 ≤ n' := by have := hn'.out; omega
          have hn2' : n' ≤ 2010 := by have := hn'.out; omega
          have hbb : -1 ≤ bf ∧ bf ≤ 2010 := by
            by_cases h1 : i = 1
            · have := hbf.out.1 h1 (by omega); omega
            · have := hbf.out.2 h1; omega
          have u1 : IntKind.i64.wrap ((n' : Int) - 1) = (n' : Int) - 1 := IntWalk.i64_in _ (by omega)
          have Hat := Lib.hid hat0
          have Hati := Lib.hid hati
          clear hat hat0 hati hkl
          go_upto_if 39 with (fail)
          go_cut [8] (fun b_ wx => b_ = .int .i64 bf ∧ Hid (PlW w wx s A' n' cp' rs) ∧ Hid (Blk wx L 24 #[.slice A n cp]) ∧ Hid (wx.ownsRow w.heap.size 48 3 (.slice A n cp) n ((lettersP s.data.toList).flatMap Fac.cells)))
          case first =>
            by_cases h1 : i = 1
            · subst h1
              have hb1 := Lib.hid (hbf.out.1 rfl (by omega))
              go_wp2_with (go_at_call 49; refine (plainOf_any L w.heap.size 0 0 n cp A s _ rfl BR.out PR.out.s (by omega) (Rd.of_own (fun x _ => fac_len x) hll.out LR.out) (by omega) (by unfold maxLen; omega) (HL.out 0 (by omega))).mono ?_; rintro e w4 ⟨rfl, hb4⟩; rw [← hb1.out])
              go_meet
              exact ⟨rfl, Lib.hid (PR.out.next hb4), Lib.hid (BR.out.next hb4), Lib.hid (own_next LR.out hb4)⟩
            · have hb1 := Lib.hid (hbf.out.2 h1)
              have h1' : ((i : Int) == 1) = false := by simp; omega
              clear h1
              go_wp2_with fail
              go_meet
              exact ⟨by rw [hb1.out], PR, BR, LR⟩
          case rest =>
            obtain ⟨rfl, PC, BC, LC⟩ := hcut
            have hat2 := Hati.out
            have HLi := Lib.hid (HL.out i hlt)
            have hstep := Lib.hid (show (rs ++ [⟨⟨#[]⟩, bf, atP s.data.toList s[i]⟩]) ++ pairsP s.data.toList (s.data.toList.drop (i + 1)) ((n' : Int)) (n' + 1) = plainL s.data.toList by
              rw [← HQ.out, drop_cons (at_byte s i hlt), List.append_assoc]; rfl)
            have LO := Lib.hid (fun W (h1 : Blk W L 24 #[.slice A n cp]) (h2 : Blk W w.heap.size 9 #[.string s]) h3 => plainOf_any L w.heap.size (i : Int) i n cp A s W rfl h1 h2 (by omega) h3 hlt (by unfold maxLen; omega) HLi.out)
            have hv := Lib.hid (atP_lt (List.mem_of_getElem? (at_byte s i hlt)) HLi.out)
            generalize atP s.data.toList s[i] = v at *
            have lc := fun W => pairInt_any bf v W (by omega) (by omega)
            obtain ⟨y, hy⟩ : ∃ y : Fac, (⟨⟨#[]⟩, bf, v⟩ : Fac) = y := ⟨_, rfl⟩
            rw [hy] at lc hstep
            have LC' := Lib.hid lc
            clear lc hy hat2 s1 ls1 g1 lg1 o1 f1
            have P3 := Lib.hid (PC.out.next (Below.refl _ _).drew)
            have B3 := Lib.hid (BC.out.next (Below.refl _ _).drew)
            have L3 := Lib.hid (own_next LC.out (Below.refl _ _).drew)
            have d0 := PC.out.g.cell 0
            have l0 := PC.out.g.lt
            have zk : (n' + 1) * 32 ≤ 140737488355328 := by omega
            have zkm : n' + 1 ≤ maxLen := by unfold maxLen; omega
            go_wp2_with fail
            go_region_law
              (first
                | (refine step_push (by rfl) _ _ _ (by rfl) w.heap.size 48 3 32 elem_rule Fac.cells A' n' cp' rs (by rfl) P6.out.q _ y #[.string y.l, .int .i64 y.a, .int .i64 y.b] 48 (0, 0) (by rfl) (heap_alloc_new _ _) rfl rfl (one_fac _) (by omega) zk zkm P6.out.e.size ?_
                   intro A8 c8 w8 own8 hg8 old8
                   have P7 := Lib.hid (P6.out.push own8 hg8)
                   have L7 := Lib.hid (own_prefix (by omega) L6.out (show _ ∧ _ from by have q := P6.out.q; rw [hrs.out, List.flatMap_append] at q; exact q) (by rw [hrs.out, List.flatMap_append] at old8; exact old8) hg8)
                   have G7 := Lib.hid (P6.out.g.grown hg8 (own_blk_ne P6.out.q P6.out.g (by decide)))
                   have B7 := Lib.hid (B6.out.grown hg8 (own_blk_ne P6.out.q B6.out (by decide)))
                   have d5 := G7.out.cell 0
                   have f5 := G7.out.frozen
                   have l5 := G7.out.lt)
                | (go_simp
                   go_wp2_with (go_at_call 51; refine (LC'.out _).mono ?_; rintro e w5 ⟨rfl, hb5⟩)
                   have P6 := Lib.hid ((P4.out.next hb5).alloc (.cells #[.string y.l, .int .i64 y.a, .int .i64 y.b] 48))
                   have B6 := Lib.hid ((B4.out.next hb5).alloc (.cells #[.string y.l, .int .i64 y.a, .int .i64 y.b] 48))
                   have L6 := Lib.hid ((own_next L4.out hb5).alloc (.cells #[.string y.l, .int .i64 y.a, .int .i64 y.b] 48))
                   have d6 := (P4.out.next hb5).g.cell 0
                   have l6 := (P4.out.next hb5).g.lt)
                | (go_simp
                   go_wp2_with (go_at_call 49; refine (LO.out _ B3.out P3.out.s (Rd.of_own (fun x _ => fac_len x) hll.out L3.out)).mono ?_; rintro e w4 ⟨rfl, hb4⟩)
                   have P4 := Lib.hid (P3.out.next hb4)
                   have B4 := Lib.hid (B3.out.next hb4)
                   have L4 := Lib.hid (own_next L3.out hb4)
                   have d4 := P4.out.g.cell 0
                   have l4 := P4.out.g.lt))
            all_goals
              go_wp2_with fail
              go_roundw
              case rel =>
                refine ⟨i + 1, A8, n' + 1, c8, rs ++ [y], more ++ [y], (n' : Int), by go_num, by omega, by omega, Lib.hid (by have := hn'.out; omega), Lib.hid (by rw [hrs.out, List.append_assoc]), Lib.hid (by rw [List.length_append, hrl.out]; rfl), P7, Lib.hid ?_, Lib.hid ?_, Lib.hid ⟨fun h => by omega, fun _ => by omega⟩, hstep⟩
                · exact B7.out.far (show L ≠ w.heap.size + 2 by omega) _
                · exact own_kept' L7.out G7.out (by decide) _
              case measure => simp [intOf]; omega
        · have he := Lib.hid (show plainL s.data.toList = rs by
            rw [← HQ.out, List.drop_of_length_le (by rw [byte_len]; omega)]; simp [pairsP])
          go_wp2_with fail
          have hg := gb_set wr (w.heap.size + 1) 0 (.slice A' n' cp')
          have x9 := PR.out.o.set_ 0 (.slice A' n' cp')
          have x10 : (wr.setCell ⟨w.heap.size + 1, 0, none⟩ (.slice A' n' cp')).cell? ⟨w.heap.size + 1, 0, none⟩ = some (.slice A' n' cp') := by rw [x9.cell 0]; rfl
          refine bodyPost_ret (v := .agg #[.slice A' n' cp']) (by simp [results, Tryd.results33, go_sem, x10]) rfl ⟨A', cp', by rw [he.out, hrl.out], ?_, PR.out.e.grown hg PR.out.e.size (fun q hq => by injection hq with hq; omega)⟩
          rw [he.out, hrl.out]
          exact PR.out.q.kept hg (.inr fun e => own_blk_ne PR.out.q PR.out.o (by decide) e.symm)
end Go.Proofs.YtnhkoinjjbfofaaDoor


/-
  All places of a word at which another one begins, in the reference.
-/
namespace Go.Proofs.YtnhkoinjjbfofaaDoor
open Go.RowKit

/-- the places before one at which a word begins -/
def fndT (p s : ByteArray) (k : Nat) : List Int := ((List.range k).filter (fun i => decide (s.extract i (i + p.size) = p))).map (fun (i : Nat) => (i : Int))
def fndL (p s : ByteArray) : List Int := fndT p s (s.size + 1 - p.size)
theorem fndT_yes {p s : ByteArray} {k : Nat} (h : s.extract k (k + p.size) = p) : fndT p s (k + 1) = fndT p s k ++ [(k : Int)] := by
  simp [fndT, List.range_succ, h]
theorem fndT_no {p s : ByteArray} {k : Nat} (h : ¬ s.extract k (k + p.size) = p) : fndT p s (k + 1) = fndT p s k := by
  simp [fndT, List.range_succ, h]
theorem fndT_len (p s : ByteArray) (k : Nat) : (fndT p s k).length ≤ k := by
  unfold fndT
  rw [List.length_map]
  exact Nat.le_trans (List.length_filter_le _ _) (by simp)
end Go.Proofs.YtnhkoinjjbfofaaDoor


/-
  The grammar of a plain word in the reference.
-/
namespace Go.Proofs.YtnhkoinjjbfofaaDoor
open Go.RowKit

theorem fnd_one (u : UInt8) (s : ByteArray) : 0 < (fndL ⟨#[u]⟩ s).length ↔ u ∈ s.data.toList := by
  unfold fndL fndT
  rw [List.length_map, List.length_pos_iff_exists_mem]
  constructor
  · rintro ⟨i, hi⟩
    rw [List.mem_filter] at hi
    have h1 : i < s.size := by have := List.mem_range.1 hi.1; have : (⟨#[u]⟩ : ByteArray).size = 1 := rfl; omega
    have h2 : s.extract i (i + 1) = ⟨#[u]⟩ := of_decide_eq_true hi.2
    have h3 : (s.extract i (i + 1)).data.toList = [u] := by rw [h2]
    rw [ByteArray.data_extract, Array.toList_extract, List.extract_eq_take_drop, drop_cons (at_byte s i h1)] at h3
    simp only [Nat.add_sub_cancel_left, List.take_succ_cons, List.take_zero] at h3
    injection h3 with h4
    rw [← h4]; exact List.mem_of_getElem? (at_byte s i h1)
  · intro h
    obtain ⟨i, hi, he⟩ := List.mem_iff_getElem.1 h
    have hi' : i < s.size := by rw [byte_len] at hi; exact hi
    refine ⟨i, List.mem_filter.2 ⟨List.mem_range.2 ?_, decide_eq_true ?_⟩⟩
    · show i < s.size + 1 - 1; omega
    · show s.extract i (i + 1) = _
      apply ByteArray.ext
      rw [ByteArray.data_extract]
      apply Array.ext'
      rw [Array.toList_extract, List.extract_eq_take_drop, drop_cons (at_byte s i hi')]
      simp only [Nat.add_sub_cancel_left, List.take_succ_cons, List.take_zero]
      congr 1
theorem idx_ks (w : List UInt8) (u : UInt8) (h : letB u = true) (hm : u ∈ w) : (ksP w).idxOf u = (ksT w u.toNat).length := by
  have h : (97 : Int) ≤ u.toNat ∧ (u.toNat : Int) ≤ 100 := by simpa [letB] using h
  have h4 : u = 97 ∨ u = 98 ∨ u = 99 ∨ u = 100 := by
    simp only [← UInt8.toNat_inj]
    have : u.toNat = 97 ∨ u.toNat = 98 ∨ u.toNat = 99 ∨ u.toNat = 100 := by omega
    exact this
  unfold ksT ksP
  rcases h4 with rfl | rfl | rfl | rfl
  all_goals
    by_cases h1 : (97 : UInt8) ∈ w <;> by_cases h2 : (98 : UInt8) ∈ w <;> by_cases h3 : (99 : UInt8) ∈ w <;> by_cases h4 : (100 : UInt8) ∈ w <;> simp_all [List.idxOf_cons]

/-- 'l02Plain' under way -/
structure PsW (w W : World) (A : Option Addr) (n c : Nat) (rs : List Fac) (at_ : List Int) : Prop where
  q : W.ownsRow w.heap.size 48 3 (.slice A n c) n (rs.flatMap Fac.cells)
  o : Blk W w.heap.size 26 #[.slice none 0 0]
  g : Blk W (w.heap.size + 1) 26 #[.slice A n c]
  v : Blk W (w.heap.size + 2) 2 (intA at_)
  e : Below w.heap.size w W
section
variable {w W W' : World} {A : Option Addr} {n c : Nat} {rs : List Fac} {at_ : List Int}
theorem PsW.next (h : PsW w W A n c rs at_) (hb : Below W.heap.size W W') : PsW w W' A n c rs at_ :=
  ⟨own_next h.q hb, h.o.next hb, h.g.next hb, h.v.next hb, h.e.trans (hb.mono h.e.size)⟩
theorem PsW.alloc (h : PsW w W A n c rs at_) (o : Obj) : PsW w (W.alloc o) A n c rs at_ := h.next ((Below.refl _ _).alloc (Nat.le_refl _) _)
theorem PsW.push {A8 : Option Addr} {k8 c8 : Nat} {rs' : List Fac} (h : PsW w W A n c rs at_) (hq : W'.ownsRow w.heap.size 48 3 (.slice A8 k8 c8) k8 (rs'.flatMap Fac.cells)) (hg : W.grownBy W' (Value.slice A n c).ownBlock) :
    PsW w (W'.setCell ⟨w.heap.size + 1, 0, none⟩ (.slice A8 k8 c8)) A8 k8 c8 rs' at_ := by
  have ho' := h.o.grown hg (own_blk_ne h.q h.o (by decide))
  have hg' := h.g.grown hg (own_blk_ne h.q h.g (by decide))
  have hv' := h.v.grown hg (own_blk_ne h.q h.v (by decide))
  have he' := h.e.grown hg h.e.size (own_ge h.q)
  have hg2 := gb_set W' (w.heap.size + 1) 0 (.slice A8 k8 c8)
  exact ⟨own_kept' hq hg' (by decide) _, ho'.grown hg2 (by intro e; injection e with e; omega), hg'.set_ 0 _, hv'.grown hg2 (by intro e; injection e with e; omega), he'.setCell (by simp) _⟩
theorem PsW.tell (h : PsW w W A n c rs at_) (i : Nat) (z : Int) : PsW w (W.setCell ⟨w.heap.size + 2, i, none⟩ (.int .i64 z)) A n c rs (at_.set i z) := by
  have hg2 := gb_set W (w.heap.size + 2) i (.int .i64 z)
  have := h.v.set_ i (.int .i64 z)
  rw [intA_set] at this
  exact ⟨own_kept' h.q h.v (by decide) _, h.o.grown hg2 (by intro e; injection e with e; omega), h.g.grown hg2 (by intro e; injection e with e; omega), this, h.e.setCell (by simp) _⟩
end
end Go.Proofs.YtnhkoinjjbfofaaDoor


/-
  PlainGrammar on both sides.
-/
namespace Go.Proofs.YtnhkoinjjbfofaaDoor
open Go.RowKit

def plnF (s : ByteArray) : List Fac := if okW s then limF (plainL s.data.toList) else []
def plnC (s : ByteArray) : Int := if okW s then limC (plainL s.data.toList) else 1
theorem plnF_len (s : ByteArray) : (plnF s).length ≤ 1048576 := by
  unfold plnF
  split
  · rename_i h
    have h1 := okW_size h
    have h2 := plainL_len s.data.toList
    rw [byte_len] at h2
    unfold limF
    split
    · omega
    · simp
  · simp
theorem pairsP_ok (w : List UInt8) : ∀ (cs : List UInt8) (b : Int) (n : Nat), ∀ f ∈ pairsP w cs b n, f.l.size ≤ maxLen
  | [], _, _, f, h => by simp [pairsP] at h
  | c :: cs, b, n, f, h => by
    simp only [pairsP, List.mem_cons] at h
    rcases h with rfl | h
    · show 0 ≤ maxLen; omega
    · exact pairsP_ok w cs _ _ f h
theorem plainL_ok (w : List UInt8) : ∀ f ∈ plainL w, f.l.size ≤ maxLen := by
  intro f hf
  unfold plainL at hf
  split at hf
  · simp at hf
  · rcases List.mem_append.1 hf with h | h
    · obtain ⟨c, _, rfl⟩ := List.mem_map.1 h
      show 1 ≤ maxLen; unfold maxLen; omega
    · exact pairsP_ok _ _ _ _ f h
theorem plainL_big {w : List UInt8} (h : 400 < w.length) (hl : w.all letB = true) : (gOk (plainL w)).isSome = false := by
  unfold gOk
  rw [if_pos]
  · rfl
  · unfold plainL
    split
    · simp at h
    · rename_i c cs
      rw [List.length_append, pairsP_len]
      have hc : letB c = true := by simp at hl; exact hl.1
      have : 0 < (lettersP (c :: cs)).length := by
        rw [List.length_pos_iff_exists_mem]
        exact ⟨ruleC c, List.mem_map.2 ⟨c, mem_ks (by simp) hc, rfl⟩⟩
      simp only [List.length_cons] at h; omega
set_option maxHeartbeats 1000000 in
set_option maxRecDepth 100000 in
theorem implPlain_any (s : ByteArray) (w : World) (hs : s.size ≤ 1048576) : Calls Tryd.prog 15 #[.string s] w (RetGC w (plnF s) (plnC s)) := by
  rcases ho : okW s with _ | _
  · have Ho := Lib.hid ho
    have hT := Lib.hid (show plnF s = [] by unfold plnF; rw [ho]; rfl)
    have hC := Lib.hid (show plnC s = 1 by unfold plnC; rw [ho]; rfl)
    rw [hT.out, hC.out]
    clear ho hT hC
    go_enter Tryd.func15, Tryd.ntmps15
    go_wp2_with fail
    refine (validWord_any s false _ (by unfold maxLen; omega) Ho.out).mono ?_
    rintro e w1 ⟨rfl, hb1⟩
    have B1 := (Blk.new w 26 #[.slice none 0 0]).next hb1
    have b1 : Below w.heap.size w w1 := ((Below.refl w.heap.size w).alloc (Nat.le_refl _) (.cells #[.slice none 0 0] 26)).trans (hb1.mono (by simp))
    have d1 := B1.cell 0
    have f1 := B1.frozen
    have l1 := B1.lt
    have B5 := B1.set_ 0 (.slice none 0 0)
    have x5 : (w1.setCell ⟨w.heap.size, 0, none⟩ (.slice none 0 0)).cell? ⟨w.heap.size, 0, none⟩ = some (.slice none 0 0) := by rw [B5.cell 0]; rfl
    have b5 := b1.setCell (p := ⟨w.heap.size, 0, none⟩) (Nat.le_refl _) (.slice none 0 0)
    clear B5 B1
    go_wp2_with fail
    refine bodyPost_ret (v := .tuple #[.agg #[.slice none 0 0], .int .i64 1]) (by simp [results, Tryd.results15, go_sem, x5]) rfl ⟨none, 0, rfl, World.ownsRow_nil _ _ _ _, b5⟩
  · have Ho := Lib.hid ho
    have hT0 := show plnF s = limF (plainL s.data.toList) by unfold plnF; rw [ho]; rfl
    have hC0 := show plnC s = limC (plainL s.data.toList) by unfold plnC; rw [ho]; rfl
    have hlen := Lib.hid (show (plainL s.data.toList).length ≤ 100000 by
      have h1 := okW_size ho
      have h2 := plainL_len s.data.toList
      rw [byte_len] at h2; omega)
    have hok := Lib.hid (plainL_ok s.data.toList)
    rcases hg : (gOk (plainL s.data.toList)).isSome with _ | _
    all_goals
      have Hg := Lib.hid hg
      have hT := hT0
      have hC := hC0
      unfold limF at hT
      unfold limC at hC
      rw [hg] at hT hC
      have HT := Lib.hid hT
      have HC := Lib.hid hC
      clear ho hg hT hC hT0 hC0
      go_enter Tryd.func15, Tryd.ntmps15
      go_wp2_with fail
      refine (validWord_any s true _ (by unfold maxLen; omega) Ho.out).mono ?_
      rintro e w1 ⟨rfl, hb1⟩
      have B1 := Lib.hid ((Blk.new w 26 #[.slice none 0 0]).next hb1)
      have b1 : Below w.heap.size w w1 := ((Below.refl w.heap.size w).alloc (Nat.le_refl _) (.cells #[.slice none 0 0] 26)).trans (hb1.mono (by simp))
      go_wp2_with fail
      refine (plain_any s w1 Ho.out).mono ?_
      rintro e w2 ⟨A2, c2, rfl, own2, hb2⟩
      have b2 := b1.trans (hb2.mono b1.size)
      have B2 := Lib.hid (B1.out.next hb2)
      have O2 := Lib.hid own2
      clear own2
      go_wp2_with fail
      first
        | (refine (orLimit_no A2 _ c2 (plainL s.data.toList) w2 (by have := hlen.out; omega) (Rd.of_own (fun x _ => fac_len x) rfl O2.out) hok.out Hg.out).mono ?_
           rintro e w3 ⟨rfl, hb3⟩
           have b3 := b2.trans (hb3.mono b2.size)
           have B3 := B2.out.next hb3
           have d3 := B3.cell 0
           have f3 := B3.frozen
           have l3 := B3.lt
           have B5 := B3.set_ 0 (.slice none 0 0)
           have x5 : (w3.setCell ⟨w.heap.size, 0, none⟩ (.slice none 0 0)).cell? ⟨w.heap.size, 0, none⟩ = some (.slice none 0 0) := by rw [B5.cell 0]; rfl
           have b5 := b3.setCell (p := ⟨w.heap.size, 0, none⟩) (Nat.le_refl _) (.slice none 0 0)
           clear B5 B3
           go_wp2_with fail
           refine bodyPost_ret (v := .tuple #[.agg #[.slice none 0 0], .int .i64 3]) (by simp [results, Tryd.results15, go_sem, x5]) rfl ⟨none, 0, by rw [HT.out, HC.out]; rfl, by rw [HT.out]; exact World.ownsRow_nil _ _ _ _, b5⟩)
        | (refine (orLimit_yes A2 _ c2 (plainL s.data.toList) w2 (by have := hlen.out; omega) (Rd.of_own (fun x _ => fac_len x) rfl O2.out) hok.out Hg.out).mono ?_
           rintro e w3 ⟨rfl, hb3⟩
           have b3 := b2.trans (hb3.mono b2.size)
           have B3 := Lib.hid (B2.out.next hb3)
           have O3 := Lib.hid (own_next O2.out hb3)
           have d3 := B3.out.cell 0
           have f3 := B3.out.frozen
           have l3 := B3.out.lt
           generalize plainL s.data.toList = T at *
           have B5 := B3.out.set_ 0 (.slice A2 T.length c2)
           have x5 : (w3.setCell ⟨w.heap.size, 0, none⟩ (.slice A2 T.length c2)).cell? ⟨w.heap.size, 0, none⟩ = some (.slice A2 T.length c2) := by rw [B5.cell 0]; rfl
           have b5 := b3.setCell (p := ⟨w.heap.size, 0, none⟩) (Nat.le_refl _) (.slice A2 T.length c2)
           have O5 := Lib.hid ((own_kept' O3.out B3.out (by decide) (.slice A2 T.length c2) (i := 0)).mono b1.size)
           clear B5
           go_wp2_with fail
           refine bodyPost_ret (v := .tuple #[.agg #[.slice A2 T.length c2], .int .i64 0]) (by simp [results, Tryd.results15, go_sem, x5]) rfl ⟨A2, c2, by rw [HT.out, HC.out]; rfl, by rw [HT.out]; exact O5.out, b5⟩)
end Go.Proofs.YtnhkoinjjbfofaaDoor


/-
  The plain grammar of a word of few letters is valid, and has the word. Plain.
-/
namespace Go.Proofs.YtnhkoinjjbfofaaDoor

theorem pairsP_mem (w : List UInt8) : ∀ (cs : List UInt8) (b : Int) (n : Nat) (r : Fac), r ∈ pairsP w cs b n → ∃ c ∈ cs, r.b = atP w c
  | [], _, _, r, h => by simp [pairsP] at h
  | c :: cs, b, n, r, h => by
    rw [pairsP] at h
    rcases List.mem_cons.1 h with rfl | h
    · exact ⟨c, List.mem_cons_self, rfl⟩
    · obtain ⟨d, hd, e⟩ := pairsP_mem w cs _ _ r h
      exact ⟨d, List.mem_cons_of_mem _ hd, e⟩
theorem plain_small {w : List UInt8} (hl : w.all letB = true) : ∀ k, k < (plainL w).length → ((wds (plainL w)).getD k []).length ≤ k + 1 := by
  have hwf := wf_plain hl
  intro k hk
  have hlet : ∀ (j : Nat) (r : Fac), (plainL w)[j]? = some r → r.l.size = 0 → ((wds (plainL w)).getD r.b.toNat []).length = 1 := fun j r hr h0 => by
    unfold plainL at hr ⊢
    split at hr
    · simp at hr
    · rename_i c cs
      have hm : ∀ c' ∈ c :: cs, letB c' = true := by simpa using hl
      have hmem : r ∈ pairsP (c :: cs) cs (atP (c :: cs) c) (ksP (c :: cs)).length := by
        rcases List.mem_append.1 (List.mem_of_getElem? hr) with h | h
        · exfalso
          obtain ⟨d, _, rfl⟩ := List.mem_map.1 h
          exact absurd h0 (show ¬ (1 : Nat) = 0 by omega)
        · exact h
      obtain ⟨d, hd, e⟩ := pairsP_mem _ _ _ _ _ hmem
      have h1 := atP_lt (w := c :: cs) (c := d) (by simp [hd]) (hm d (by simp [hd]))
      have hlen : (lettersP (c :: cs)).length = (ksP (c :: cs)).length := by simp [lettersP]
      have hj : r.b.toNat < (lettersP (c :: cs)).length := by rw [e]; omega
      have hg : (lettersP (c :: cs) ++ pairsP (c :: cs) cs (atP (c :: cs) c) (ksP (c :: cs)).length)[r.b.toNat]? = (lettersP (c :: cs))[r.b.toNat]? := List.getElem?_append_left hj
      rw [List.getElem?_eq_getElem hj] at hg
      obtain ⟨u, _, hu⟩ := List.mem_map.1 (List.getElem_mem hj)
      rw [← hu] at hg
      rw [wds_one hg rfl]; rfl
  induction k using Nat.strongRecOn with
  | ind k ih =>
    have hr : (plainL w)[k]? = some (plainL w)[k] := List.getElem?_eq_getElem hk
    rcases hwf k _ hr with ⟨h0, a0, a1, b0, b1⟩ | ⟨c, _, hl2, _, _⟩
    · have h1 := hlet k _ hr h0
      have h2 := ih (plainL w)[k].a.toNat (by omega) (by omega)
      rw [wds_pair hwf hr h0, List.length_append, h1]
      omega
    · rw [wds_one hr hl2]
      show 1 ≤ k + 1
      omega
theorem plain_ok {w : List UInt8} (hl : w.all letB = true) (hn : w.length ≤ 300) : (gOk (plainL w)).isSome = true :=
  ok_of (wf_plain hl) (by have := plainL_len w; omega) fun k hk => by
    have h1 := plain_small hl k hk
    have := plainL_len w
    omega
theorem plnF_tx {u : List Nat} (h4 : ∀ x ∈ u, x < 4) (h0 : u ≠ []) (hn : u.length ≤ 300) : plnC (tx u) = 0 ∧ (gOk (plnF (tx u))).isSome = true ∧ wdN (plnF (tx u)) = u := by
  have hlet : (txB u).all letB = true := by
    rw [List.all_eq_true]
    intro x hx
    obtain ⟨k, hk, rfl⟩ := List.mem_map.1 hx
    have := h4 k hk
    have h5 : (UInt8.ofNat (97 + k)).toNat = 97 + k := by rw [UInt8.toNat_ofNat']; omega
    simp [letB, h5]; omega
  have hne : txB u ≠ [] := by simpa [txB] using h0
  have hlen : (txB u).length = u.length := by simp [txB]
  have ho : okW (tx u) = true := by rw [okW_all (by rw [tx_size]; omega)]; exact hlet
  have hp := plain_ok hlet (by omega)
  have e1 : plnF (tx u) = plainL (txB u) := by
    unfold plnF limF
    rw [if_pos ho]
    show (if (gOk (plainL (txB u))).isSome = true then plainL (txB u) else []) = _
    rw [if_pos hp]
  have e2 : plnC (tx u) = 0 := by
    unfold plnC limC
    rw [if_pos ho]
    show (if (gOk (plainL (txB u))).isSome = true then (0 : Int) else 3) = 0
    rw [if_pos hp]
  refine ⟨e2, by rw [e1]; exact hp, ?_⟩
  rw [e1]
  have hpos := plainL_pos hne hlet
  unfold wdN
  rw [if_neg (List.length_pos_iff.1 hpos), plain_word hlet hne]
  unfold txB
  rw [List.map_map]
  conv => rhs; rw [← List.map_id u]
  refine List.map_congr_left fun k hk => ?_
  have := h4 k hk
  show numC (UInt8.ofNat (97 + k)) = k
  unfold numC
  rw [UInt8.toNat_ofNat']
  omega
end Go.Proofs.YtnhkoinjjbfofaaDoor


/-
  The words of the rules that are met are the part of the word. Plain.
-/
namespace Go.Proofs.YtnhkoinjjbfofaaDoor

/-- the words of some rules, one behind the other -/
def wdsOf (rs : List Fac) (ks : List Nat) : List Nat := ks.flatMap fun k => (wds rs).getD k []
theorem wdsOf_app (rs : List Fac) (a b : List Nat) : wdsOf rs (a ++ b) = wdsOf rs a ++ wdsOf rs b := List.flatMap_append
theorem wdsOf_one (rs : List Fac) (k : Nat) : wdsOf rs [k] = (wds rs).getD k [] := by simp [wdsOf]
theorem pcs_words {rs : List Fac} {ls : List Int} (hls : gLens rs [] = some ls) (i j : Int) : ∀ (f r : Nat) (a : Int), r < f → r < rs.length →
    wdsOf rs (pcs ls rs i j f r a) = (((wds rs).getD r []).take (j - a).toNat).drop (i - a).toNat
  | 0, _, _, h, _ => by omega
  | f + 1, r, a, _, hr => by
    have hwf := wf_of hls
    have hlen := lens_word hls hr
    by_cases h1 : a + ls.getD r 0 ≤ i
    · rw [pcs_out1 h1, List.drop_eq_nil_of_le (by rw [List.length_take]; omega)]; rfl
    by_cases h2 : j ≤ a
    · rw [pcs_out2 h2, show (j - a).toNat = 0 by omega, List.take_zero, List.drop_nil]; rfl
    by_cases h3 : i ≤ a ∧ a + ls.getD r 0 ≤ j
    · rw [pcs_in (by omega) h1 h2 h3.1 h3.2, wdsOf_one, show (i - a).toNat = 0 by omega, List.drop_zero, List.take_of_length_le (by omega)]
    have hx : rs[r]? = some (rs[r]'hr) := List.getElem?_eq_getElem _
    generalize rs[r]'hr = x at hx
    rcases hwf r x hx with ⟨h0, a0, a1, b0, b1⟩ | ⟨cc, hc, hl, _, _⟩
    · have la := lens_word hls (k := x.a.toNat) (by omega)
      rw [pcs_go (by omega) h1 h2 h3 hx, Nat.add_sub_cancel, wdsOf_app, pcs_words hls i j f x.a.toNat a (by omega) (by omega), pcs_words hls i j f x.b.toNat _ (by omega) (by omega), wds_pair hwf hx h0]
      generalize (wds rs).getD x.a.toNat [] = u at *
      generalize (wds rs).getD x.b.toNat [] = v at *
      rw [la, List.take_append, List.drop_append]
      congr 1
      rw [List.length_take]
      by_cases h4 : (u.length : Int) ≤ j - a
      · rw [show (j - (a + (u.length : Int))).toNat = (j - a).toNat - u.length by omega, show (i - (a + (u.length : Int))).toNat = (i - a).toNat - min (j - a).toNat u.length by omega]
      · rw [show (j - (a + (u.length : Int))).toNat = 0 by omega, show (j - a).toNat - u.length = 0 by omega, List.take_zero, List.drop_nil, List.drop_nil]
    · exfalso
      have h0 : x.l.size ≠ 0 := by rw [hl]; show (1 : Nat) ≠ 0; omega
      have := lens_let hls hx h0
      apply h3
      omega
theorem pcsT_words {rs : List Fac} {ls : List Int} (hls : gLens rs [] = some ls) {i j : Nat} (h : i ≤ j) : wdsOf rs (pcsT ls rs i j) = ((wdN rs).take j).drop i := by
  unfold pcsT wdN
  by_cases h0 : rs = []
  · subst h0
    rw [if_neg (by simp), if_pos rfl, List.take_nil, List.drop_nil]; rfl
  · have h1 : 0 < rs.length := List.length_pos_iff.2 h0
    rw [if_neg h0]
    by_cases hij : i < j
    · rw [if_pos ⟨h1, by omega⟩, pcs_words hls _ _ _ _ _ (by omega) (by omega)]
      congr 1
    · rw [if_neg (by omega), List.drop_eq_nil_of_le (by rw [List.length_take]; omega)]; rfl
end Go.Proofs.YtnhkoinjjbfofaaDoor


/-
  A part of a word, in the program: the rules that are met are spelled into a builder.
-/
namespace Go.Proofs.YtnhkoinjjbfofaaDoor
open Go.RowKit

theorem txB_app (u v : List Nat) : txB (u ++ v) = txB u ++ txB v := by simp [txB]
theorem txB_lenU (u : List Nat) : (txB u).length = u.length := by simp [txB]
/-- what is spelled stands where the speller reads it -/
structure SpE (B gb sb ob : Nat) (A : Option Addr) (n c : Nat) (rs : List Fac) (w : World) : Prop where
  g : Blk w gb 26 #[.slice A n c]
  s : Blk w sb 83 #[.func (.func 45) #[] #[.pointer (some ⟨gb, 0, none⟩), .pointer (some ⟨sb, 0, none⟩), .pointer (some ⟨ob, 0, none⟩)]]
  r : Rd w B A n 3 Fac.cells rs
  hB : B ≤ gb
  ng : gb ≠ ob
  ns : sb ≠ ob
section
variable {B gb sb ob : Nat} {A : Option Addr} {n c : Nat} {rs : List Fac} {w w' : World}
theorem SpE.next (h : SpE B gb sb ob A n c rs w) (hb : Below w.heap.size w w') : SpE B gb sb ob A n c rs w' :=
  ⟨h.g.next hb, h.s.next hb, h.r.next' (by have := h.g.lt; have := h.hB; omega) hb, h.hB, h.ng, h.ns⟩
theorem SpE.kb (h : SpE B gb sb ob A n c rs w) (hb : KB B 5 ob w w') : SpE B gb sb ob A n c rs w' :=
  ⟨h.g.kb hb (by decide) h.ng, h.s.kb hb (by decide) h.ns, h.r.below hb.b, h.hB, h.ng, h.ns⟩
end
set_option maxHeartbeats 2000000 in
set_option maxRecDepth 100000 in
theorem spell_any (B gb sb ob : Nat) (A : Option Addr) (n c : Nat) (rs : List Fac) (hwf : WF rs) (hn : n ≤ 1048576) : ∀ (r : Nat) (l : List UInt8) (w : World), r < n → SpE B gb sb ob A n c rs w → Bld B ob l w → l.length + ((wds rs).getD r []).length ≤ 1048576 →
    Calls Tryd.prog 45 #[.int .i64 (r : Int), .pointer (some ⟨gb, 0, none⟩), .pointer (some ⟨sb, 0, none⟩), .pointer (some ⟨ob, 0, none⟩)] w (fun e w' => e = .returned (.tuple #[]) ∧ KB B 5 ob w w' ∧ Bld B ob (l ++ txB ((wds rs).getD r [])) w') := by
  intro r
  induction r using Nat.strongRecOn with
  | ind r ih =>
    intro l w hr hE hB hl
    have IH := Lib.hid ih; clear ih
    have HE := Lib.hid hE
    have HB := Lib.hid hB
    have hBw : B ≤ w.heap.size := by have := hE.g.lt; have := hE.hB; omega
    obtain ⟨b, o, x, rfl, hB1, gx, c0, c1, c2⟩ := (hE.r.more hBw).fac hr
    have Gx := Lib.hid gx
    have g0 : w.cell? ⟨gb, 0, none⟩ = some (.slice (some ⟨b, o, none⟩) n c) := hE.g.cell 0
    have gl := hE.g.lt
    have i1 : (0 : Int) ≤ (r : Int) := by omega
    have i2 : (r : Int) < n := by omega
    have hlr := hE.r.len
    clear hE hB gx
    have et := enterOk Tryd.func45 (by kernel_rfl) (by kernel_rfl)
    unfold EnterOk at et
    go_enter Tryd.func45, Tryd.ntmps45
    go_wp2_with fail
    refine namedC fun w1 H1 => ?_
    have hb1 : Below w.heap.size w w1 := by rw [H1.out]; (repeat first | exact Below.refl _ _ | assumption | refine Below.drew ?_ | refine Below.alloc ?_ (by first | exact Nat.le_refl _ | (simp; done) | omega | (simp; omega)) _ | refine Below.setCell ?_ (by first | exact Nat.le_refl _ | (simp; done) | omega | (simp; omega)) _)
    have BX := Lib.hid (show Blk w1 w.heap.size 48 #[.string x.l, .int .i64 x.a, .int .i64 x.b] by rw [H1.out]; exact Blk.new _ _ _)
    clear H1
    obtain ⟨pb, hpb⟩ : ∃ pb, isP x = pb := ⟨_, rfl⟩
    refine (isPair_any x pb _ hpb).mono ?_
    rintro e w2 ⟨rfl, hb2⟩
    have b2 := Lib.hid (hb1.trans (hb2.mono hb1.size))
    have X2 := Lib.hid (BX.out.next hb2)
    have E2 := Lib.hid (HE.out.next b2.out)
    have B2 := Lib.hid (HB.out.next b2.out)
    have hBo := HB.out.lt
    have hs2 := b2.out.size
    have hx2 := X2.out.lt
    clear BX hb1 hb2 g0 gl c0 c1 c2 HE HB
    by_cases h0 : x.l.size = 0
    · obtain rfl : pb = true := by rw [← hpb]; simp [isP, h0]
      rcases hwf r x Gx.out with ⟨_, a0, a1, p0, p1⟩ | ⟨ch, _, q, _⟩
      rotate_left
      · rw [q] at h0; exact absurd h0 (show ¬ (1 : Nat) = 0 by omega)
      have hw := wds_pair hwf Gx.out h0
      obtain ⟨a, hae⟩ : ∃ a : Nat, x.a = a := ⟨x.a.toNat, by omega⟩
      obtain ⟨p, hpe⟩ : ∃ p : Nat, x.b = p := ⟨x.b.toNat, by omega⟩
      rw [hae, hpe, Int.toNat_natCast, Int.toNat_natCast] at hw
      rw [hae, hpe] at X2
      have hlen : ((wds rs).getD r []).length = ((wds rs).getD a []).length + ((wds rs).getD p []).length := by rw [hw, List.length_append]
      have x1 : w2.cell? ⟨w.heap.size, 1, none⟩ = some (.int .i64 (a : Int)) := X2.out.cell 1
      have s0 : w2.cell? ⟨sb, 0, none⟩ = some (.func (.func 45) #[] #[.pointer (some ⟨gb, 0, none⟩), .pointer (some ⟨sb, 0, none⟩), .pointer (some ⟨ob, 0, none⟩)]) := E2.out.s.cell 0
      have sl := E2.out.s.lt
      go_wp2_with fail
      refine (IH.out a (by omega) l w2 (by omega) E2.out B2.out (by omega)).mono ?_
      rintro e w3 ⟨rfl, hk3, hB3⟩
      have K3 := Lib.hid ((KB.below b2.out hBw (T := 5) (ob := ob)).trans hk3)
      have X3 := Lib.hid (X2.out.kb hk3 (by decide) (by omega))
      have E3 := Lib.hid (E2.out.kb hk3)
      have B3 := Lib.hid hB3
      clear hk3 hB3 E2 B2 X2 x1 s0 sl
      have x2 : w3.cell? ⟨w.heap.size, 2, none⟩ = some (.int .i64 (p : Int)) := X3.out.cell 2
      have s0 : w3.cell? ⟨sb, 0, none⟩ = some (.func (.func 45) #[] #[.pointer (some ⟨gb, 0, none⟩), .pointer (some ⟨sb, 0, none⟩), .pointer (some ⟨ob, 0, none⟩)]) := E3.out.s.cell 0
      have sl := E3.out.s.lt
      have xl := X3.out.lt
      go_wp2_with fail
      refine (IH.out p (by omega) (l ++ txB ((wds rs).getD a [])) w3 (by omega) E3.out B3.out (by rw [List.length_append, txB_lenU]; omega)).mono ?_
      rintro e w4 ⟨rfl, hk4, hB4⟩
      have K4 := Lib.hid (K3.out.trans hk4)
      have B4 := Lib.hid hB4
      clear hk4 hB4
      go_wp2_with fail
      go_end0
      exact ⟨rfl, K4.out, by rw [hw, txB_app, ← List.append_assoc]; exact B4.out⟩
    · obtain rfl : pb = false := by rw [← hpb]; simp [isP, h0]
      rcases hwf r x Gx.out with ⟨q, _⟩ | ⟨ch, hch, q, _, _⟩
      · exact absurd q h0
      have hw := wds_one Gx.out q
      have x0 : w2.cell? ⟨w.heap.size, 0, none⟩ = some (.string x.l) := X2.out.cell 0
      have hlt := letB_num hch
      have htx : txB ((wds rs).getD r []) = [ch] := by
        rw [hw]
        unfold txB
        simp only [List.map_cons, List.map_nil]
        rw [show 97 + (ch.toNat - 97) = ch.toNat by omega]
        simp
      have hll : l.length + 1 ≤ 1048576 := by rw [hw] at hl; exact hl
      have WR := Lib.hid (bWriteK_any B ob l ⟨#[ch]⟩ w2 B2.out (by show l.length + 1 ≤ _; omega) (by omega))
      rw [q] at X2 x0
      go_wp2_with fail
      refine WR.out.mono ?_
      rintro e w3 ⟨rfl, hk3, hB3⟩
      have K3 := Lib.hid ((KB.below b2.out hBw (T := 5) (ob := ob)).trans hk3)
      have B3 := Lib.hid hB3
      clear hk3 hB3
      go_wp2_with fail
      go_end0
      exact ⟨rfl, K3.out, by rw [htx]; exact B3.out⟩
set_option maxHeartbeats 1000000 in
set_option maxRecDepth 100000 in
theorem unpack_any (A : Option Addr) (n c : Nat) (rs : List Fac) (A2 : Option Addr) (c2 : Nat) (ls : List Int) (i j : Nat) (w : World) (hn : n ≤ 1048576) (hr : Rd w w.heap.size A n 3 Fac.cells rs) (hls : gLens rs [] = some ls) (h2 : Rd w w.heap.size A2 n 1 intE ls) (hij : i ≤ j) (hj : j ≤ (wdN rs).length) (hm : j - i ≤ 1048576) :
    Calls Tryd.prog 30 #[.agg #[.slice A n c], .slice A2 n c2, .int .i64 (i : Int), .int .i64 (j : Int)] w (Ret (.string (tx (((wdN rs).take j).drop i))) w) := by
  have hl := hr.len
  have hwf := wf_of hls
  have hwd := pcsT_words hls hij
  have HR := Lib.hid hr
  have H2 := Lib.hid h2
  have HL := Lib.hid hls
  clear hr h2 hls
  go_enter Tryd.func30, Tryd.ntmps30
  go_wp2_with fail
  refine namedC fun w1 H1 => ?_
  have hb1 : Below w.heap.size w w1 := by rw [H1.out]; (repeat first | exact Below.refl _ _ | assumption | refine Below.drew ?_ | refine Below.alloc ?_ (by first | exact Nat.le_refl _ | (simp; done) | omega | (simp; omega)) _ | refine Below.setCell ?_ (by first | exact Nat.le_refl _ | (simp; done) | omega | (simp; omega)) _)
  have BO := Lib.hid (show Blk w1 (w.heap.size + 1) 46 #[.pointer none, .slice none 0 0] by rw [H1.out]; simpa using (Blk.new (w.alloc _) _ _).alloc _)
  have BG := Lib.hid (show Blk w1 w.heap.size 26 #[.slice A n c] by rw [H1.out]; exact ((Blk.new w _ _).alloc _).alloc _)
  have BS := Lib.hid (show Blk w1 (w.heap.size + 1 + 1) 83 #[.func (.func 45) #[] #[.pointer (some ⟨w.heap.size, 0, none⟩), .pointer (some ⟨w.heap.size + 1 + 1, 0, none⟩), .pointer (some ⟨w.heap.size + 1, 0, none⟩)]] by
    rw [H1.out]; simpa using Blk.new ((w.alloc _).alloc _) _ _)
  have hzo := BO.out.lt
  have hzs := BS.out.lt
  clear H1
  have hsub : ∀ (d : List Nat) (k : Nat) (q : List Nat), pcsT ls rs i j = d ++ k :: q → (txB (wdsOf rs d)).length + ((wds rs).getD k []).length ≤ 1048576 := fun d k q e => by
    have h1 : (wdsOf rs (pcsT ls rs i j)).length ≤ j - i := by rw [hwd, List.length_drop, List.length_take]; omega
    rw [e, wdsOf_app, show k :: q = [k] ++ q from rfl, wdsOf_app, wdsOf_one, List.length_append, List.length_append] at h1
    rw [txB_lenU]; omega
  have hp := piecesK_any (fun q w' => (∃ d, pcsT ls rs i j = d ++ q ∧ Bld w.heap.size (w.heap.size + 1) (txB (wdsOf rs d)) w') ∧ SpE w.heap.size w.heap.size (w.heap.size + 1 + 1) (w.heap.size + 1) A n c rs w')
    (fun q wa wb h hb => ⟨by obtain ⟨d, e, h⟩ := h.1; exact ⟨d, e, h.next hb⟩, h.2.next hb⟩)
    w.heap.size (w.heap.size + 1) w1.heap.size (by omega) hzo A n c rs A2 c2 ls (i : Int) (j : Int) 45 (enterOk Tryd.func45 (by kernel_rfl) (by kernel_rfl)) #[.pointer (some ⟨w.heap.size, 0, none⟩), .pointer (some ⟨w.heap.size + 1 + 1, 0, none⟩), .pointer (some ⟨w.heap.size + 1, 0, none⟩)] hn HL.out
    (fun q k wa hk h => by
      obtain ⟨⟨d, e, hB⟩, hE⟩ := h
      have hc := spell_any w.heap.size w.heap.size (w.heap.size + 1 + 1) (w.heap.size + 1) A n c rs hwf hn k (txB (wdsOf rs d)) wa hk hE hB (hsub d k q e)
      refine (by simpa using hc : Calls _ _ _ _ _).mono ?_
      rintro e' w' ⟨rfl, hk', hB'⟩
      exact ⟨rfl, hk', ⟨d ++ [k], by rw [e, List.append_assoc]; rfl, by rw [wdsOf_app, wdsOf_one, txB_app]; exact hB'⟩, hE.kb hk'⟩)
    [] w1 rfl (HR.out.below hb1) (H2.out.below hb1) ⟨⟨[], by simp, Bld.fresh (by omega) BO.out⟩, ⟨BG.out, BS.out, HR.out.below hb1, Nat.le_refl _, by omega, by omega⟩⟩
  refine hp.mono ?_
  rintro e w2 ⟨rfl, hk2, ⟨d, hd, hB2⟩, _⟩
  rw [List.append_nil] at hd
  rw [← hd, hwd] at hB2
  have b2 := Lib.hid (hb1.trans hk2.b)
  have HSt := Lib.hid (Tryd.Builder_String_any w.heap.size (w.heap.size + 1) _ w2 hB2 b2.out.size)
  have htx : (⟨(txB (((wdN rs).take j).drop i)).toArray⟩ : ByteArray) = tx (((wdN rs).take j).drop i) := rfl
  rw [htx] at HSt
  generalize tx (((wdN rs).take j).drop i) = T at *
  clear hp hd hB2 hk2 BO BS BG hsub hwd htx
  go_wp2_with fail
  refine HSt.out.mono ?_
  rintro e w3 ⟨rfl, hb3⟩
  have b3 := Lib.hid (b2.out.trans hb3)
  clear hb3
  go_wp2_with fail
  go_ret
  exact ⟨rfl, b3.out⟩
end Go.Proofs.YtnhkoinjjbfofaaDoor


/-
  Parts of words and words, in the program.
-/
namespace Go.Proofs.YtnhkoinjjbfofaaDoor
open Go.RowKit

theorem wf_szU {rs : List Fac} (hwf : WF rs) : ∀ f ∈ rs, f.l.size ≤ maxLen := fun f hf => by
  obtain ⟨k, hk, rfl⟩ := List.getElem_of_mem hf
  rcases hwf k _ (List.getElem?_eq_getElem hk) with ⟨q, _⟩ | ⟨ch, _, q, _⟩
  · unfold maxLen; omega
  · rw [q]; show (1 : Nat) ≤ maxLen; unfold maxLen; omega
theorem lastI_inU {rs : List Fac} {ls : List Int} (hls : gOk rs = some ls) : 0 ≤ lastI ls ∧ lastI ls ≤ 1000000000000000 := by
  obtain ⟨hgl, _, hl⟩ := gOk_lens hls
  unfold lastI
  by_cases h0 : rs.length = 0
  · rw [List.eq_nil_of_length_eq_zero (hl.trans h0)]; show (0 : Int) ≤ 0 ∧ (0 : Int) ≤ 1000000000000000; omega
  · have := lens_bound hgl (i := ls.length - 1) (by omega)
    omega
set_option maxHeartbeats 1000000 in
set_option maxRecDepth 100000 in
theorem unpackPart_any (A : Option Addr) (n c : Nat) (rs : List Fac) (ls : List Int) (i j : Nat) (w : World) (hr : Rd w w.heap.size A n 3 Fac.cells rs) (hls : gOk rs = some ls) (hij : i ≤ j) (hj : j ≤ (wdN rs).length) (hm : j - i ≤ 2000) :
    Calls Tryd.prog 14 #[.agg #[.slice A n c], .int .i64 (i : Int), .int .i64 (j : Int)] w (Ret (.tuple #[.string (tx (((wdN rs).take j).drop i)), .int .i64 0]) w) := by
  have HR := Lib.hid hr
  have hl := hr.len
  obtain ⟨hgl, h400, hlen⟩ := gOk_lens hls
  have HO := wf_szU (wf_of hgl)
  have hlast := last_word hgl
  have hlb := lastI_inU hls
  have UN := Lib.hid (fun (L : Option Addr) (cl : Nat) W (h : Below w.heap.size w W) (h2 : Rd W W.heap.size L n 1 intE ls) => unpack_any A n c rs L cl ls i j W (by omega) (HR.out.next h) hgl h2 hij hj (by omega))
  generalize tx (((wdN rs).take j).drop i) = T at *
  have hjl : (j : Int) ≤ lastI ls := by omega
  have hll : ls.length = n := by omega
  have LA := Lib.hid (fun (L : Option Addr) (cl : Nat) W (h : Rd W W.heap.size L n 1 intE ls) => last_any L n cl ls W (by omega) h)
  generalize lastI ls = la at *
  go_enter Tryd.func14, Tryd.ntmps14
  go_wp2_with fail
  refine namedC fun w0 H0 => ?_
  have hb0 : Below w.heap.size w w0 := by rw [H0.out]; (repeat first | exact Below.refl _ _ | assumption | refine Below.drew ?_ | refine Below.alloc ?_ (by first | exact Nat.le_refl _ | (simp; done) | omega | (simp; omega)) _ | refine Below.setCell ?_ (by first | exact Nat.le_refl _ | (simp; done) | omega | (simp; omega)) _)
  have BG := Lib.hid (show Blk w0 w.heap.size 26 #[.slice A n c] by rw [H0.out]; exact Blk.new _ _ _)
  clear H0
  refine (lengths_any A n c rs w0 (by omega) (HR.out.next hb0) HO).mono ?_
  rintro e w1 ⟨hb1, ⟨ls', L, cl, hgl', rfl, own1⟩ | ⟨hgl', _⟩⟩
  case inr => exfalso; rw [hgl'] at hls; cases hls
  obtain rfl : ls = ls' := by rw [hgl'] at hls; exact (Option.some.inj hls).symm
  rw [hll] at own1 ⊢
  have b1 := Lib.hid (hb0.trans (hb1.mono hb0.size))
  have r1 := Lib.hid (Rd.of_own (enc := intE) (fun _ _ => rfl) hll own1)
  have BG1 := Lib.hid (BG.out.next hb1)
  clear own1 hb1 hb0 BG hls hgl' hgl
  have hW := Lib.hid (fun W => within_any (i : Int) 0 (j : Int) true W (by simp only [inB, Bool.and_eq_true, decide_eq_true_eq]; omega))
  have g1 : w1.cell? ⟨w.heap.size, 0, none⟩ = some (.slice A n c) := BG1.out.cell 0
  have gl1 := BG1.out.lt
  go_wp2_with fail
  refine (hW.out _).mono ?_
  rintro e w2 ⟨rfl, hb2⟩
  have b2 := Lib.hid (b1.out.trans (hb2.mono b1.out.size))
  have r2 := Lib.hid (r1.out.next hb2)
  have BG2 := Lib.hid (BG1.out.next hb2)
  clear hb2 g1 gl1 BG1 r1 b1
  go_wp2_with fail
  refine (LA.out L cl w2 r2.out).mono ?_
  rintro e w3 ⟨rfl, hb3⟩
  have b3 := Lib.hid (b2.out.trans (hb3.mono b2.out.size))
  have r3 := Lib.hid (r2.out.next hb3)
  have BG3 := Lib.hid (BG2.out.next hb3)
  clear hb3 BG2 r2 b2
  have g3 : w3.cell? ⟨w.heap.size, 0, none⟩ = some (.slice A n c) := BG3.out.cell 0
  have gl3 := BG3.out.lt
  have n1 : ¬ la < (j : Int) := by omega
  have u1 : IntKind.i64.wrap ((j : Int) - i) = (j : Int) - i := IntWalk.i64_in _ (by omega)
  have n2 : ¬ (2000 : Int) < (j : Int) - i := by omega
  go_wp2_with fail
  refine (UN.out L cl w3 b3.out r3.out).mono ?_
  rintro e w4 ⟨rfl, hb4⟩
  have b4 := Lib.hid (b3.out.trans (hb4.mono b3.out.size))
  clear hb4
  go_wp2_with fail
  go_ret2
  exact ⟨rfl, b4.out⟩
set_option maxHeartbeats 1000000 in
set_option maxRecDepth 100000 in
theorem implLength_any (A : Option Addr) (n c : Nat) (rs : List Fac) (ls : List Int) (w : World) (hr : Rd w w.heap.size A n 3 Fac.cells rs) (hls : gOk rs = some ls) :
    Calls Tryd.prog 9 #[.agg #[.slice A n c]] w (Ret (.tuple #[.int .i64 ((wdN rs).length : Int), .int .i64 0]) w) := by
  have HR := Lib.hid hr
  have hl := hr.len
  obtain ⟨hgl, h400, hlen⟩ := gOk_lens hls
  have HO := wf_szU (wf_of hgl)
  have hll : ls.length = n := by omega
  have LA := Lib.hid (fun (L : Option Addr) (cl : Nat) W (h : Rd W W.heap.size L n 1 intE ls) => last_any L n cl ls W (by omega) h)
  rw [last_word hgl] at LA
  generalize ((wdN rs).length : Int) = la at *
  go_enter Tryd.func9, Tryd.ntmps9
  go_wp2_with fail
  refine namedC fun w0 H0 => ?_
  have hb0 : Below w.heap.size w w0 := by rw [H0.out]; (repeat first | exact Below.refl _ _ | assumption | refine Below.drew ?_ | refine Below.alloc ?_ (by first | exact Nat.le_refl _ | (simp; done) | omega | (simp; omega)) _ | refine Below.setCell ?_ (by first | exact Nat.le_refl _ | (simp; done) | omega | (simp; omega)) _)
  clear H0
  refine (lengths_any A n c rs w0 (by omega) (HR.out.next hb0) HO).mono ?_
  rintro e w1 ⟨hb1, ⟨ls', L, cl, hgl', rfl, own1⟩ | ⟨hgl', _⟩⟩
  case inr => exfalso; rw [hgl'] at hls; cases hls
  obtain rfl : ls = ls' := by rw [hgl'] at hls; exact (Option.some.inj hls).symm
  rw [hll] at own1 ⊢
  have b1 := Lib.hid (hb0.trans (hb1.mono hb0.size))
  have r1 := Lib.hid (Rd.of_own (enc := intE) (fun _ _ => rfl) hll own1)
  clear own1 hb1 hb0 hls hgl' hgl
  go_wp2_with fail
  refine (LA.out L cl w1 r1.out).mono ?_
  rintro e w3 ⟨rfl, hb3⟩
  have b3 := Lib.hid (b1.out.trans (hb3.mono b1.out.size))
  clear hb3
  go_wp2_with fail
  go_ret2
  exact ⟨rfl, b3.out⟩
set_option maxHeartbeats 1000000 in
set_option maxRecDepth 100000 in
theorem unpackWI_any (A : Option Addr) (n c : Nat) (rs : List Fac) (ls : List Int) (w : World) (hr : Rd w w.heap.size A n 3 Fac.cells rs) (hls : gOk rs = some ls) (hm : (wdN rs).length ≤ 2000) :
    Calls Tryd.prog 8 #[.agg #[.slice A n c]] w (Ret (.tuple #[.string (tx (wdN rs)), .int .i64 0]) w) := by
  have HR := Lib.hid hr
  have LE := Lib.hid (fun W (h : Below w.heap.size w W) => implLength_any A n c rs ls W (HR.out.next h) hls)
  have UP := Lib.hid (fun W (h : Below w.heap.size w W) => unpackPart_any A n c rs ls 0 (wdN rs).length W (HR.out.next h) hls (by omega) (by omega) (by omega))
  rw [List.take_length, List.drop_zero] at UP
  generalize tx (wdN rs) = T at *
  generalize (wdN rs).length = la at *
  go_enter Tryd.func8, Tryd.ntmps8
  go_wp2_with fail
  refine namedC fun w0 H0 => ?_
  have hb0 : Below w.heap.size w w0 := by rw [H0.out]; (repeat first | exact Below.refl _ _ | assumption | refine Below.drew ?_ | refine Below.alloc ?_ (by first | exact Nat.le_refl _ | (simp; done) | omega | (simp; omega)) _ | refine Below.setCell ?_ (by first | exact Nat.le_refl _ | (simp; done) | omega | (simp; omega)) _)
  have BG := Lib.hid (show Blk w0 w.heap.size 26 #[.slice A n c] by rw [H0.out]; exact Blk.new _ _ _)
  clear H0
  refine (LE.out w0 hb0).mono ?_
  rintro e w1 ⟨rfl, hb1⟩
  have b1 := Lib.hid (hb0.trans (hb1.mono hb0.size))
  have BG1 := Lib.hid (BG.out.next hb1)
  clear hb1 hb0 BG
  have g1 : w1.cell? ⟨w.heap.size, 0, none⟩ = some (.slice A n c) := BG1.out.cell 0
  have gl1 := BG1.out.lt
  go_wp2_with fail
  refine (UP.out w1 b1.out).mono ?_
  rintro e w3 ⟨rfl, hb3⟩
  have b3 := Lib.hid (b1.out.trans (hb3.mono b1.out.size))
  clear hb3
  go_wp2_with fail
  go_ret2
  exact ⟨rfl, b3.out⟩
theorem tx_extract (u : List Nat) (i j : Nat) : (tx u).extract i j = tx ((u.take j).drop i) := by
  rw [ext_take]
  unfold tx txB
  show (⟨(((u.map fun k => UInt8.ofNat (97 + k)).toArray.toList.drop i).take (j - i)).toArray⟩ : ByteArray) = _
  rw [List.toList_toArray, ← List.map_drop, ← List.map_take, List.drop_take]
set_option maxHeartbeats 1000000 in
set_option maxRecDepth 100000 in
theorem letterAt_any (A : Option Addr) (n c : Nat) (rs : List Fac) (ls : List Int) (i : Nat) (w : World) (hr : Rd w w.heap.size A n 3 Fac.cells rs) (hls : gOk rs = some ls) (hi : i < (wdN rs).length) :
    Calls Tryd.prog 13 #[.agg #[.slice A n c], .int .i64 (i : Int)] w (Ret (.tuple #[.string (tx (((wdN rs).take (i + 1)).drop i)), .int .i64 0]) w) := by
  have HR := Lib.hid hr
  have hl := hr.len
  obtain ⟨hgl, h400, hlen⟩ := gOk_lens hls
  have HO := wf_szU (wf_of hgl)
  have hlast := last_word hgl
  have hlb := lastI_inU hls
  have UN := Lib.hid (fun (L : Option Addr) (cl : Nat) W (h : Below w.heap.size w W) (h2 : Rd W W.heap.size L n 1 intE ls) => unpack_any A n c rs L cl ls i (i + 1) W (by omega) (HR.out.next h) hgl h2 (by omega) (by omega) (by omega))
  generalize tx (((wdN rs).take (i + 1)).drop i) = T at *
  have hjl : (i : Int) + 1 ≤ lastI ls := by omega
  have hll : ls.length = n := by omega
  have LA := Lib.hid (fun (L : Option Addr) (cl : Nat) W (h : Rd W W.heap.size L n 1 intE ls) => last_any L n cl ls W (by omega) h)
  generalize lastI ls = la at *
  have e1 : (((i + 1 : Nat) : Nat) : Int) = (i : Int) + 1 := by omega
  rw [e1] at UN
  have u1 : IntKind.i64.wrap ((i : Int) + 1) = (i : Int) + 1 := IntWalk.i64_in _ (by omega)
  have u2 : IntKind.i64.wrap (la - 1) = la - 1 := IntWalk.i64_in _ (by omega)
  have hW := Lib.hid (fun W => within_any (i : Int) 0 (la - 1) true W (by simp only [inB, Bool.and_eq_true, decide_eq_true_eq]; omega))
  clear hlast hi
  go_enter Tryd.func13, Tryd.ntmps13
  go_wp2_with fail
  refine namedC fun w0 H0 => ?_
  have hb0 : Below w.heap.size w w0 := by rw [H0.out]; (repeat first | exact Below.refl _ _ | assumption | refine Below.drew ?_ | refine Below.alloc ?_ (by first | exact Nat.le_refl _ | (simp; done) | omega | (simp; omega)) _ | refine Below.setCell ?_ (by first | exact Nat.le_refl _ | (simp; done) | omega | (simp; omega)) _)
  have BG := Lib.hid (show Blk w0 w.heap.size 26 #[.slice A n c] by rw [H0.out]; exact Blk.new _ _ _)
  clear H0
  refine (lengths_any A n c rs w0 (by omega) (HR.out.next hb0) HO).mono ?_
  rintro e w1 ⟨hb1, ⟨ls', L, cl, hgl', rfl, own1⟩ | ⟨hgl', _⟩⟩
  case inr => exfalso; rw [hgl'] at hls; cases hls
  obtain rfl : ls = ls' := by rw [hgl'] at hls; exact (Option.some.inj hls).symm
  rw [hll] at own1 ⊢
  have b1 := Lib.hid (hb0.trans (hb1.mono hb0.size))
  have r1 := Lib.hid (Rd.of_own (enc := intE) (fun _ _ => rfl) hll own1)
  have BG1 := Lib.hid (BG.out.next hb1)
  clear own1 hb1 hb0 BG hls hgl' hgl
  have g1 : w1.cell? ⟨w.heap.size, 0, none⟩ = some (.slice A n c) := BG1.out.cell 0
  have gl1 := BG1.out.lt
  go_wp2_with fail
  refine (LA.out L cl w1 r1.out).mono ?_
  rintro e w2 ⟨rfl, hb2⟩
  have b2 := Lib.hid (b1.out.trans (hb2.mono b1.out.size))
  have r2 := Lib.hid (r1.out.next hb2)
  have BG2 := Lib.hid (BG1.out.next hb2)
  clear hb2 g1 gl1 BG1 r1 b1
  go_wp2_with fail
  refine (hW.out _).mono ?_
  rintro e w3 ⟨rfl, hb3⟩
  have b3 := Lib.hid (b2.out.trans (hb3.mono b2.out.size))
  have r3 := Lib.hid (r2.out.next hb3)
  have BG3 := Lib.hid (BG2.out.next hb3)
  clear hb3 BG2 r2 b2
  have g3 : w3.cell? ⟨w.heap.size, 0, none⟩ = some (.slice A n c) := BG3.out.cell 0
  have gl3 := BG3.out.lt
  go_wp2_with fail
  refine (UN.out L cl w3 b3.out r3.out).mono ?_
  rintro e w4 ⟨rfl, hb4⟩
  have b4 := Lib.hid (b3.out.trans (hb4.mono b3.out.size))
  clear hb4
  go_wp2_with fail
  go_ret2
  exact ⟨rfl, b4.out⟩
end Go.Proofs.YtnhkoinjjbfofaaDoor


/-
  Equal grammars in the reference.
-/
namespace Go.Proofs.YtnhkoinjjbfofaaDoor
open Go.RowKit

set_option maxHeartbeats 1000000 in
theorem specSameG_any (A D : Option Addr) (n c d : Nat) (xs : List Fac) (w : World) (hn : n ≤ maxLen)
    (hx : Rd w w.heap.size A n 3 Fac.cells xs) (hy : Rd w w.heap.size D n 3 Fac.cells xs) :
    Calls Tryd.prog 10 #[.agg #[.slice A n c], .agg #[.slice D n d]] w (Ret (.bool true) w) := by
  have hl := Lib.hid hx.len
  unfold maxLen at hn
  go_enter Tryd.func10, Tryd.ntmps10
  go_wp2_with fail
  refine named fun w1 H1 => ?_
  have hb1 : Below w.heap.size w w1 := by rw [H1.out]; (repeat first | exact Below.refl _ _ | assumption | refine Below.drew ?_ | refine Below.alloc ?_ (by first | exact Nat.le_refl _ | (simp; done) | omega | (simp; omega)) _ | refine Below.setCell ?_ (by first | exact Nat.le_refl _ | (simp; done) | omega | (simp; omega)) _)
  have B1 := Lib.hid (show Blk w1 w.heap.size 26 #[.slice A n c] by rw [H1.out]; exact (Blk.new w _ _).alloc _)
  have B2 := Lib.hid (show Blk w1 (w.heap.size + 1) 26 #[.slice D n d] by rw [H1.out]; simpa using Blk.new (w.alloc _) _ _)
  clear H1
  go_loopw [5] (fun i_ w' => ∃ k : Nat, i_ = .int .i64 k ∧ k ≤ n ∧ Hid (Below w1.heap.size w1 w')) (fun i_ _ => n - (intOf i_).toNat)
  case atStart => exact ⟨0, rfl, by omega, Lib.hid (Below.refl _ _)⟩
  case round =>
    obtain ⟨k, rfl, hk, hb⟩ := hrel
    have g0 : wr.cell? ⟨w.heap.size, 0, none⟩ = some (.slice A n c) := (B1.out.next hb.out).cell 0
    have g1 : wr.cell? ⟨w.heap.size + 1, 0, none⟩ = some (.slice D n d) := (B2.out.next hb.out).cell 0
    have zg0 := (B1.out.next hb.out).lt
    have zg1 := (B2.out.next hb.out).lt
    have b := Lib.hid (hb1.trans (hb.out.mono hb1.size))
    by_cases hlt : k < n
    · obtain ⟨b1, o1, x, rfl, hB, gx, c0, c1, c2⟩ := (hx.below b.out).fac hlt
      obtain ⟨b2, o2, y, rfl, hB', gy, d0, d1, d2⟩ := (hy.below b.out).fac hlt
      obtain rfl : x = y := Option.some.inj (gx.symm.trans gy)
      have zs := b.out.size
      have zB : b1 < wr.heap.size := by omega
      have zB' : b2 < wr.heap.size := by omega
      clear gx gy hx hy
      have hup := upc wr.heap.size wr
      have i0 : (0 : Int) ≤ (k : Int) := by omega
      have i1 : (k : Int) < (n : Int) := by omega
      have hne := fun W => (neq_rule x x W).trans (by rw [show decide (x = x) = true from decide_eq_true rfl])
      go_wp2_with fail
      refine wp_region_up wr.heap.size (by kernel_rfl) (by kernel_rfl) ?_
      repeat (go_big_quiet_step (fail))
      refine wpQuiet_nil ?_
      intro w2 hw2
      have hb2 := up_of hw2
      go_wp2
      go_roundw
      case rel => exact ⟨k + 1, by go_num, by omega, Lib.hid (hb.out.trans (hb2.mono hb.out.size))⟩
      case measure => simp [intOf]; omega
    · go_wp2
      go_ret
      exact ⟨rfl, b.out⟩
end Go.Proofs.YtnhkoinjjbfofaaDoor


/-
  The reader of choices: what it hands back lies within bounds.
-/
namespace Go.Proofs.YtnhkoinjjbfofaaDoor
open Go.RowKit

def byteE (b : UInt8) : List Value := [.int .u8 (b.toNat : Int)]
def U64 (z : Int) : Prop := 0 ≤ z ∧ z < 18446744073709551616
/-- block g is a reader that has read at most K bytes -/
def Src (w : World) (g K : Nat) : Prop := ∃ (A : Option Addr) (n c k : Nat) (bs : List UInt8) (z : Int), k ≤ K ∧ n ≤ 4096 ∧ U64 z ∧ Blk w g 77 #[.slice A n c, .int .i64 k, .int .u64 z] ∧ Rd w g A n 1 byteE bs
/-- what a draw below m leaves -/
def Draw (w : World) (g K : Nat) (m : Int) (e : Ending) (w' : World) : Prop := ∃ v : Int, e = .returned (.int .i64 v) ∧ 0 ≤ v ∧ v < m ∧ Src w' g K ∧ w.grownBy w' (some g)
theorem Rd.byte {w : World} {B n : Nat} {A : Option Addr} {xs : List UInt8} {k : Nat} (h : Rd w B A n 1 byteE xs) (hk : k < n) :
    ∃ b o x, A = some ⟨b, o, none⟩ ∧ b < B ∧ xs[k]? = some x ∧ w.cell? ⟨b, o + k, none⟩ = some (.int .u8 (x.toNat : Int)) := by
  obtain ⟨b, o, hA, hb, x, hx, hc⟩ := h.at_ hk
  exact ⟨b, o, x, hA, hb, hx, by simpa using hc 0 _ rfl⟩
theorem Src.keep {w w' : World} {g K : Nat} (h : Src w g K) (hb : w'.heap[g]? = w.heap[g]?) (hr : ∀ p : Addr, p.block < g → w'.cell? p = w.cell? p) : Src w' g K := by
  obtain ⟨A, n, c, k, bs, z, h1, h2, h3, h4, h5⟩ := h
  exact ⟨A, n, c, k, bs, z, h1, h2, h3, hb.trans h4, h5.keep hr⟩

theorem wraps_63 (n : Int) (h₀ : 0 ≤ n) (h₁ : n < 2 ^ 63) : IntKind.u64.wrap n = n := by rw [IntKind.wrap_u64]; omega
theorem and_255 (z : Int) (h0 : 0 ≤ z) (h1 : z < 18446744073709551616) : 0 ≤ wrap64 (bits .and .u64 (z / 1099511627776) 255) ∧ wrap64 (bits .and .u64 (z / 1099511627776) 255) < 256 := by
  have h := bits_mask .u64 63 (by decide) wraps_63 8 (by decide) (z / 1099511627776) (by omega) (by omega)
  have e : ((2 : Int) ^ 8 - 1) = 255 := by decide
  have e2 : ((2 : Int) ^ 8) = 256 := by decide
  rw [e, e2] at h
  rw [h, IntWalk.wrap64_in _ (by omega)]
  omega
theorem u64_of (z : Int) : U64 (IntKind.u64.wrap z) := by
  unfold U64; rw [IntKind.wrap_u64]; omega
set_option maxHeartbeats 1000000 in
theorem next_any (g K : Nat) (w : World) (h : Src w g K) (hK : K ≤ 1000000000) :
    Calls Tryd.prog 52 #[.pointer (some ⟨g, 0, none⟩)] w (Draw w g (K + 1) 256) := by
  obtain ⟨A, n, c, k, bs, z, hk, hn, hz, hB, hr⟩ := h
  have hg := hB.lt
  obtain ⟨c0, c1, c2⟩ := hB.three
  have hup := upc w.heap.size w
  by_cases hlt : k < n
  · obtain ⟨b, o, x, rfl, hb, gx, cx⟩ := hr.byte hlt
    have hxx : (x.toNat : Int) < 256 := by have := x.toNat_lt; omega
    have i1 : (0 : Int) ≤ k := by omega
    have i2 : (k : Int) < n := by omega
    have i3 : (k : Int) + 1 ≤ n := by omega
    go_enter Tryd.func52, Tryd.ntmps52
    go_wp2_with fail
    refine wp_region_up w.heap.size (by kernel_rfl) (by kernel_rfl) ?_
    repeat (go_big_quiet_step (fail))
    refine wpQuiet_nil ?_
    intro w2 hup_w2
    have hb2 := up_of hup_w2
    have hB2 := hB.next hb2
    have hg2 := hB2.lt
    have hbb2 : b < w2.heap.size := by omega
    obtain ⟨d0, d1, d2⟩ := hB2.three
    have hu2 := upc w2.heap.size w2
    have cx2 := (hb2.cell (p := ⟨b, o + k, none⟩) (by show b < _; omega)).trans cx
    go_wp2_with fail
    refine wp_region_up w2.heap.size (by kernel_rfl) (by kernel_rfl) ?_
    repeat (go_big_quiet_step (fail))
    refine wpQuiet_nil ?_
    intro w3 hup_w3
    have hb3 := up_of hup_w3
    have hB3 := hB2.next hb3
    have hg3 := hB3.lt
    obtain ⟨e0, e1, e2⟩ := hB3.three
    have f3 := hB3.frozen
    go_wp2_with fail
    refine named fun w4 H4 => ?_
    obtain ⟨z', hz', hB4⟩ : ∃ z', U64 z' ∧ Blk w4 g 77 #[.slice (some ⟨b, o, none⟩) n c, .int .i64 ((k + 1 : Nat) : Int), .int .u64 z'] := by
      rw [H4.out]; exact ⟨_, u64_of _, (hB3.set_ 1 _).set_ 2 _⟩
    have hg4 := hB4.lt
    obtain ⟨x0, x1, x2⟩ := hB4.three
    have hu4 := upc w4.heap.size w4
    have hz0 := hz'.1; have hz1 := hz'.2
    clear hu2 hup
    refine wp_region_up w4.heap.size (by kernel_rfl) (by kernel_rfl) ?_
    repeat (go_big_quiet_step (fail))
    refine wpQuiet_nil ?_
    intro w5 hup_w5
    have hb5 := up_of hup_w5
    go_wp2_with fail
    go_ret
    refine ⟨_, rfl, by omega, hxx, ⟨_, n, c, k + 1, bs, z', by omega, hn, hz', hB4.next hb5, ?_⟩, ?_⟩
    · have g4 : w3.grownBy w4 (some g) := by rw [H4.out]; exact gb_setCell (gb_set _ _ _ _) _ _
      exact ((((hr.keep fun p hp => hb2.cell (by omega)).keep fun p hp => hb3.cell (by omega)).grown (by omega) g4 (fun k e => by injection e; omega)).keep fun p hp => hb5.cell (by omega))
    · have g4 : w3.grownBy w4 (some g) := by rw [H4.out]; exact gb_setCell (gb_set _ _ _ _) _ _
      exact gb_next (gb_trans (gb_next (gb_below hb2) hb3) g4) hb5
  · have i2 : (n : Int) ≤ k := by omega
    go_enter Tryd.func52, Tryd.ntmps52
    go_wp2_with fail
    refine wp_region_up w.heap.size (by kernel_rfl) (by kernel_rfl) ?_
    repeat (go_big_quiet_step (fail))
    refine wpQuiet_nil ?_
    intro w3 hup_w3
    have hb3 := up_of hup_w3
    have hB3 := hB.next hb3
    have hg3 := hB3.lt
    obtain ⟨e0, e1, e2⟩ := hB3.three
    have f3 := hB3.frozen
    go_wp2_with fail
    refine named fun w4 H4 => ?_
    obtain ⟨z', hz', hB4⟩ : ∃ z', U64 z' ∧ Blk w4 g 77 #[.slice A n c, .int .i64 ((k + 1 : Nat) : Int), .int .u64 z'] := by
      rw [H4.out]; exact ⟨_, u64_of _, (hB3.set_ 1 _).set_ 2 _⟩
    have hg4 := hB4.lt
    obtain ⟨x0, x1, x2⟩ := hB4.three
    have hu4 := upc w4.heap.size w4
    have hz0 := hz'.1; have hz1 := hz'.2
    clear hup
    refine wp_region_up w4.heap.size (by kernel_rfl) (by kernel_rfl) ?_
    repeat (go_big_quiet_step (fail))
    refine wpQuiet_nil ?_
    intro w5 hup_w5
    have hb5 := up_of hup_w5
    have hB5 := hB4.next hb5
    obtain ⟨y0, y1, y2⟩ := hB5.three
    go_wp2_with fail
    go_ret
    have hand := and_255 z' hz0 hz1
    have g4 : w3.grownBy w4 (some g) := by rw [H4.out]; exact gb_setCell (gb_set _ _ _ _) _ _
    exact ⟨_, rfl, hand.1, hand.2, ⟨_, n, c, k + 1, bs, z', by omega, hn, hz', hB5,
      (((hr.keep fun p hp => hb3.cell (by omega)).grown (by omega) g4 (fun k e => by injection e; omega)).keep fun p hp => hb5.cell (by omega))⟩, gb_next (gb_trans (gb_below hb3) g4) hb5⟩
theorem Src.mono {w : World} {g K K' : Nat} (h : Src w g K) (hK : K ≤ K') : Src w g K' := by
  obtain ⟨A, n, c, k, bs, z, h1, h2⟩ := h
  exact ⟨A, n, c, k, bs, z, by omega, h2⟩
theorem Src.next {w w' : World} {g K : Nat} (h : Src w g K) (hb : Below w.heap.size w w') : Src w' g K := by
  obtain ⟨A, n, c, k, bs, z, h1, h2, h3, h4, h5⟩ := h
  have := h4.lt
  exact ⟨A, n, c, k, bs, z, h1, h2, h3, h4.next hb, h5.keep fun p hp => hb.cell (by omega)⟩
theorem Src.lt {w : World} {g K : Nat} (h : Src w g K) : g < w.heap.size := by
  obtain ⟨A, n, c, k, bs, z, h1, h2, h3, h4, h5⟩ := h
  exact h4.lt
/-- a write to another block that lies behind -/
theorem Src.grown {w w' : World} {g K : Nat} {r : Option Nat} (h : Src w g K) (hg : w.grownBy w' r) (hr : ∀ k, r = some k → g < k) : Src w' g K := by
  obtain ⟨A, n, c, k, bs, z, h1, h2, h3, h4, h5⟩ := h
  have := h4.lt
  exact ⟨A, n, c, k, bs, z, h1, h2, h3, h4.grown hg (fun e => by have := hr _ e.symm; omega), h5.grown (by omega) hg (fun k e => by have := hr _ e; omega)⟩

set_option maxHeartbeats 400000 in
theorem pick_any (g K : Nat) (n m : Int) (w : World) (h : Src w g K) (hK : K ≤ 100000000) (hn : n ≤ m) (hm : 1 ≤ m) :
    Calls Tryd.prog 34 #[.pointer (some ⟨g, 0, none⟩), .int .i64 n] w (Draw w g (K + 2) m) := by
  by_cases h1 : n ≤ 1
  · go_enter Tryd.func34, Tryd.ntmps34
    go_wp2_with fail
    go_ret
    exact ⟨0, rfl, by omega, by omega, h.mono (by omega), World.grownBy.refl _ _⟩
  by_cases h2 : n ≤ 200
  · go_enter Tryd.func34, Tryd.ntmps34
    go_wp2_with fail
    refine (next_any g K _ h (by omega)).mono ?_
    rintro e w1 ⟨v, rfl, v0, v1, s1, g1⟩
    go_wp2_with fail
    go_ret
    exact ⟨_, rfl, Int.emod_nonneg _ (by omega), by have := Int.emod_lt_of_pos v (show 0 < n by omega); omega, s1.mono (by omega), g1⟩
  · go_enter Tryd.func34, Tryd.ntmps34
    go_wp2_with fail
    refine (next_any g K _ h (by omega)).mono ?_
    rintro e w1 ⟨v, rfl, v0, v1, s1, g1⟩
    go_wp2_with fail
    refine (next_any g (K + 1) _ s1 (by omega)).mono ?_
    rintro e w2 ⟨v', rfl, v0', v1', s2, g2⟩
    go_wp2_with fail
    go_ret
    exact ⟨_, rfl, Int.emod_nonneg _ (by omega), by have := Int.emod_lt_of_pos (v * 256 + v') (show 0 < n by omega); omega, s2, gb_trans g1 g2⟩
def DrawB (w : World) (g K : Nat) (e : Ending) (w' : World) : Prop := ∃ b : Bool, e = .returned (.bool b) ∧ Src w' g K ∧ w.grownBy w' (some g)
theorem one_any (g K : Nat) (n : Int) (w : World) (h : Src w g K) (hK : K ≤ 100000000) (hn : n ≤ 1000) :
    Calls Tryd.prog 35 #[.pointer (some ⟨g, 0, none⟩), .int .i64 n] w (DrawB w g (K + 2)) := by
  go_enter Tryd.func35, Tryd.ntmps35
  go_wp2_with fail
  refine (pick_any g K n 1000 _ h hK hn (by omega)).mono ?_
  rintro e w1 ⟨v, rfl, v0, v1, s1, g1⟩
  go_wp2_with fail
  go_ret
  exact ⟨_, rfl, s1, g1⟩
end Go.Proofs.YtnhkoinjjbfofaaDoor
