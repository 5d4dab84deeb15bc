/-
  A grammar trimmed: it is valid where the grammar was, and its word is the grammar's.
-/
import Derived.Test.YtikhjoianbndhaaMapM
namespace Go.Proofs.Ytikhjoianbndhaa

section
variable {α : Type} (d : α) (F : Nat → α) (G : α → α → Fac → α)
theorem full_snoc (xs : List Fac) (y : Fac) : full d F G (xs ++ [y]) = full d F G xs ++ [fStep d F G (full d F G xs) y] := foldG_snoc d F G xs y []
theorem full_old (xs : List Fac) (y : Fac) {p : Nat} (h : p < xs.length) : (full d F G (xs ++ [y])).getD p d = (full d F G xs).getD p d := by
  rw [full_snoc, List.getD_eq_getElem?_getD, List.getElem?_append_left (by rw [full_len]; exact h), ← List.getD_eq_getElem?_getD]
theorem full_new (xs : List Fac) (y : Fac) : (full d F G (xs ++ [y])).getD xs.length d = fStep d F G (full d F G xs) y := by
  rw [full_snoc, List.getD_eq_getElem?_getD, List.getElem?_append_right (by rw [full_len]; exact Nat.le_refl _), full_len, Nat.sub_self]; rfl
/-- equal rules have equal values -/
theorem full_same {rs : List Fac} (hwf : WF rs) {i j : Nat} {y : Fac} (hi : rs[i]? = some y) (hj : rs[j]? = some y) : (full d F G rs).getD i d = (full d F G rs).getD j d := by
  by_cases h0 : y.l.size = 0
  · rw [full_pair d F G hwf hi h0, full_pair d F G hwf hj h0]
  · rw [full_let d F G hi h0, full_let d F G hj h0]
end

/-- what the first round leaves -/
structure TkI (rs kept : List Fac) (same : List Int) (k : Nat) : Prop where
  lk : kept.length = k
  ls : same.length = k
  r : ∀ (i : Nat) (r : Fac), i < k → rs[i]? = some r → kept[i]? = some (trR same r)
  s : ∀ i, i < k → ∃ s : Nat, same.getD i 0 = (s : Int) ∧ s ≤ i ∧ kept[s]? = kept[i]?
theorem trR_more {same : List Int} (x : Int) {r : Fac} {i : Nat} (hr : (r.l.size = 0 ∧ 0 ≤ r.a ∧ r.a < (i : Int) ∧ 0 ≤ r.b ∧ r.b < (i : Int)) ∨ (∃ c, letB c = true ∧ r.l = ⟨#[c]⟩ ∧ r.a = 0 ∧ r.b = 0)) (hi : i ≤ same.length) : trR (same ++ [x]) r = trR same r := by
  unfold trR
  rcases hr with ⟨h0, a0, a1, b0, b1⟩ | ⟨c, _, hl, _⟩
  · rw [if_pos h0, if_pos h0, getD_snoc, if_pos (by omega), getD_snoc, if_pos (by omega)]
  · rw [if_neg (by rw [hl]; show ¬ (1 : Nat) = 0; omega), if_neg (by rw [hl]; show ¬ (1 : Nat) = 0; omega)]
theorem TkI.step {rs kept : List Fac} {same : List Int} {k : Nat} (h : TkI rs kept same k) (hwf : WF rs) {r : Fac} (hr : rs[k]? = some r) : TkI rs (kept ++ [trR same r]) (same ++ [((kept.idxOf (trR same r) : Nat) : Int)]) (k + 1) := by
  have hlk := h.lk
  have hls := h.ls
  refine ⟨by simp [hlk], by simp [hls], fun i x hi hx => ?_, fun i hi => ?_⟩
  · by_cases e : i < k
    · rw [List.getElem?_append_left (by omega), h.r i x e hx, trR_more _ (hwf i x hx) (by omega)]
    · obtain rfl : i = k := by omega
      obtain rfl : r = x := by rw [hr] at hx; exact Option.some.inj hx
      rw [List.getElem?_append_right (by omega), hlk, Nat.sub_self, trR_more _ (hwf i r hr) (by omega)]; rfl
  · by_cases e : i < k
    · obtain ⟨s, h1, h2, h3⟩ := h.s i e
      refine ⟨s, ?_, h2, ?_⟩
      · rw [getD_snoc, if_pos (by omega)]; exact h1
      · rw [List.getElem?_append_left (by omega), List.getElem?_append_left (by omega)]; exact h3
    · obtain rfl : i = k := by omega
      have hle := List.idxOf_le_length (a := trR same r) (l := kept)
      refine ⟨kept.idxOf (trR same r), ?_, by omega, ?_⟩
      · rw [getD_snoc, if_neg (by omega), if_pos (by omega)]
      · by_cases e2 : kept.idxOf (trR same r) < kept.length
        · rw [List.getElem?_append_left e2, List.getElem?_append_right (by omega), hlk, Nat.sub_self, List.getElem?_eq_getElem e2, List.getElem_idxOf]; rfl
        · rw [show kept.idxOf (trR same r) = i by omega]
theorem trK_tk {rs : List Fac} (hwf : WF rs) : ∀ (n k : Nat) (kept : List Fac) (same : List Int), TkI rs kept same k → k + n = rs.length → TkI rs (trK (rs.drop k) kept same).1 (trK (rs.drop k) kept same).2 rs.length
  | 0, k, kept, same, h, hk => by
    rw [List.drop_of_length_le (by omega)]
    have : k = rs.length := by omega
    rw [← this]; exact h
  | n + 1, k, kept, same, h, hk => by
    have hr : rs[k]? = some (rs[k]'(by omega)) := List.getElem?_eq_getElem _
    rw [drop_cons hr]
    exact trK_tk hwf n (k + 1) _ _ (h.step hwf hr) (by omega)
theorem tk_all {rs : List Fac} (hwf : WF rs) : TkI rs (trK rs [] []).1 (trK rs [] []).2 rs.length ∧ WF (trK rs [] []).1 := by
  refine ⟨trK_tk hwf rs.length 0 [] [] ⟨rfl, rfl, fun i r h => absurd h (by omega), fun i h => absurd h (by omega)⟩ (by omega), ?_⟩
  exact (trK_I hwf 0 [] [] TrI.nil rfl (by omega)).1.k
section
variable {α : Type} (d : α) (F : Nat → α) (G : α → α → Fac → α) (hG : ∀ a b r r', G a b r = G a b r')
include hG
/-- the rules told by the first equal ones have the same values -/
theorem kept_val {rs kept : List Fac} {same : List Int} (hwf : WF rs) (h : TkI rs kept same rs.length) (hwk : WF kept) : ∀ i, i < rs.length → (full d F G kept).getD i d = (full d F G rs).getD i d := by
  intro i
  induction i using Nat.strongRecOn with
  | ind i ih =>
    intro hi
    have hr : rs[i]? = some (rs[i]'hi) := List.getElem?_eq_getElem _
    have hk := h.r i _ hi hr
    have val : ∀ j, j < i → (full d F G kept).getD (same.getD j 0).toNat d = (full d F G rs).getD j d := fun j hj => by
      obtain ⟨s, h1, h2, h3⟩ := h.s j (by omega)
      rw [h1, Int.toNat_natCast, ← ih j hj (by omega)]
      have hj' : kept[j]? = some (kept[j]'(by rw [h.lk]; omega)) := List.getElem?_eq_getElem _
      exact full_same d F G hwk (h3.trans hj') hj'
    rcases hwf i _ hr with ⟨h0, a0, a1, b0, b1⟩ | ⟨c, hc, hl, _⟩
    · unfold trR at hk
      rw [if_pos h0] at hk
      rw [full_pair d F G hwk hk rfl, full_pair d F G hwf hr h0]
      show G ((full d F G kept).getD (same.getD _ 0).toNat d) ((full d F G kept).getD (same.getD _ 0).toNat d) _ = _
      rw [val _ (by omega), val _ (by omega)]
      exact hG _ _ _ _
    · have h0 : (rs[i]'hi).l.size ≠ 0 := by rw [hl]; show (1 : Nat) ≠ 0; omega
      unfold trR at hk
      rw [if_neg h0] at hk
      rw [full_let d F G hk h0, full_let d F G hr h0]
end

/-- which rules are used -/
theorem useStep_len (kept : List Fac) (i : Nat) (u : List Bool) : (useStep kept i u).length = u.length := by unfold useStep; split <;> simp
theorem set_getD {u : List Bool} {i j : Nat} (hi : i < u.length) : (u.set i true).getD j false = if i = j then true else u.getD j false := by
  rw [List.getD_eq_getElem?_getD, List.getElem?_set]
  split
  · rename_i h; subst h; simp [hi]
  · rw [← List.getD_eq_getElem?_getD]
theorem useT_I {kept : List Fac} (hwk : WF kept) : ∀ (k : Nat) (u : List Bool), k ≤ kept.length → u.length = kept.length →
    (useT kept k u).length = kept.length ∧ (∀ j, k ≤ j → (useT kept k u).getD j false = u.getD j false) ∧ (∀ j, u.getD j false = true → (useT kept k u).getD j false = true) ∧
    (∀ (i : Nat) (r : Fac), i < k → kept[i]? = some r → r.l.size = 0 → (useT kept k u).getD i false = true → (useT kept k u).getD r.a.toNat false = true ∧ (useT kept k u).getD r.b.toNat false = true) ∧
    (∀ s, (∀ j, s < j → u.getD j false = false) → ∀ j, s < j → (useT kept k u).getD j false = false)
  | 0, u, _, hl => ⟨hl, fun _ _ => rfl, fun _ h => h, fun i r h => absurd h (by omega), fun s h => h⟩
  | k + 1, u, hk, hl => by
    have hr : kept[k]? = some (kept[k]'(by omega)) := List.getElem?_eq_getElem _
    have hd : kept.getD k default = kept[k]'(by omega) := by rw [List.getD_eq_getElem?_getD, hr]; rfl
    obtain ⟨i1, i2, i3, i4, i5⟩ := useT_I hwk k (useStep kept k u) (by omega) (by rw [useStep_len, hl])
    have hst : ∀ j, (useStep kept k u).getD j false = if (u.getD k false = true ∧ (kept[k]'(by omega)).l.size = 0) ∧ (j = (kept[k]'(by omega)).a.toNat ∨ j = (kept[k]'(by omega)).b.toNat) then true else u.getD j false := by
      intro j
      unfold useStep
      rw [hd]
      by_cases hc : u.getD k false = true ∧ (kept[k]'(by omega)).l.size = 0
      · rw [if_pos hc]
        rcases hwk k _ hr with ⟨_, a0, a1, b0, b1⟩ | ⟨c, _, hl', _⟩
        · rw [set_getD (by simp; omega), set_getD (by omega)]
          by_cases h1 : j = (kept[k]'(by omega)).b.toNat
          · rw [if_pos h1.symm, if_pos ⟨hc, .inr h1⟩]
          · rw [if_neg (fun e => h1 e.symm)]
            by_cases h2 : j = (kept[k]'(by omega)).a.toNat
            · rw [if_pos h2.symm, if_pos ⟨hc, .inl h2⟩]
            · rw [if_neg (fun e => h2 e.symm), if_neg (fun e => by rcases e.2 with e | e; exact h2 e; exact h1 e)]
        · have := hc.2; rw [hl'] at this; exact absurd this (show ¬ (1 : Nat) = 0 by omega)
      · rw [if_neg hc, if_neg (fun e => hc e.1)]
    have hab : (u.getD k false = true ∧ (kept[k]'(by omega)).l.size = 0) → (kept[k]'(by omega)).a.toNat < k ∧ (kept[k]'(by omega)).b.toNat < k := fun hc => by
      rcases hwk k _ hr with ⟨_, a0, a1, b0, b1⟩ | ⟨c, _, hl', _⟩
      · omega
      · have := hc.2; rw [hl'] at this; exact absurd this (show ¬ (1 : Nat) = 0 by omega)
    have keep : ∀ j, k ≤ j → (useStep kept k u).getD j false = u.getD j false := fun j hj => by
      rw [hst j, if_neg]
      rintro ⟨hc, h | h⟩
      · have := (hab hc).1; omega
      · have := (hab hc).2; omega
    refine ⟨i1, fun j hj => (i2 j (by omega)).trans (keep j (by omega)), fun j hj => i3 j (by rw [hst j]; split; rfl; exact hj), fun i r hi hir h0 hu => ?_, fun s hs j hj => ?_⟩
    · by_cases e : i < k
      · exact i4 i r e hir h0 hu
      · obtain rfl : i = k := by omega
        have hxr : kept[i]'(by omega) = r := by rw [hr] at hir; exact Option.some.inj hir
        rw [← hxr] at h0 ⊢
        have h1 : u.getD i false = true := by
          have := hu
          show _
          rw [show useT kept (i + 1) u = useT kept i (useStep kept i u) from rfl, i2 i (Nat.le_refl _), keep i (Nat.le_refl _)] at this
          exact this
        exact ⟨i3 _ (by rw [hst _, if_pos ⟨⟨h1, h0⟩, .inl rfl⟩]), i3 _ (by rw [hst _, if_pos ⟨⟨h1, h0⟩, .inr rfl⟩])⟩
    · refine i5 s (fun j' hj' => ?_) j hj
      rw [hst j']
      split
      · rename_i hc
        exfalso
        have h1 := hab hc.1
        have h2 : ¬ s < k := fun h => by have := hs k h; rw [hc.1.1] at this; cases this
        rcases hc.2 with h | h <;> omega
      · exact hs j' hj'

section
variable {α : Type} (d : α) (F : Nat → α) (G : α → α → Fac → α) (hG : ∀ a b r r', G a b r = G a b r')
/-- the rules that are left, under way -/
structure OutI (kept : List Fac) (used : List Bool) (i : Nat) (out : List Fac) (at_ : List Int) : Prop where
  wf : WF out
  la : at_.length = kept.length
  v : ∀ j, j < i → used.getD j false = true → ∃ p : Nat, at_.getD j 0 = (p : Int) ∧ p < out.length ∧ (full d F G out).getD p d = (full d F G kept).getD j d
  p : ∀ p, p < out.length → ∃ j, j < kept.length ∧ (full d F G out).getD p d = (full d F G kept).getD j d
  z : ∀ s, s < i → used.getD s false = true → (∀ j, s < j → used.getD j false = false) → 0 < out.length ∧ at_.getD s 0 = (out.length : Int) - 1
include hG
theorem outT_I {kept : List Fac} {used : List Bool} (hwk : WF kept) (hu : ∀ (i : Nat) (r : Fac), kept[i]? = some r → r.l.size = 0 → used.getD i false = true → used.getD r.a.toNat false = true ∧ used.getD r.b.toNat false = true) :
    ∀ (n i : Nat) (out : List Fac) (at_ : List Int), i + n = kept.length → OutI d F G kept used i out at_ → ∃ at2, OutI d F G kept used kept.length (outT used i (kept.drop i) out at_) at2
  | 0, i, out, at_, hi, h => by
    rw [List.drop_of_length_le (by omega)]
    have : i = kept.length := by omega
    subst this
    exact ⟨at_, h⟩
  | n + 1, i, out, at_, hi, h => by
    have hr : kept[i]? = some (kept[i]'(by omega)) := List.getElem?_eq_getElem _
    rw [drop_cons hr, outT]
    by_cases hui : used.getD i false = true
    · rw [if_pos hui]
      refine outT_I hwk hu n (i + 1) _ _ (by omega) ?_
      have hval : WF (out ++ [trR at_ (kept[i]'(by omega))]) ∧ fStep d F G (full d F G out) (trR at_ (kept[i]'(by omega))) = (full d F G kept).getD i d := by
        rcases hwk i _ hr with ⟨h0, a0, a1, b0, b1⟩ | ⟨c, hc, hl, ha, hb⟩
        · obtain ⟨ua, ub⟩ := hu i _ hr h0 hui
          obtain ⟨p, p1, p2, p3⟩ := h.v _ (by omega) ua
          obtain ⟨q, q1, q2, q3⟩ := h.v _ (by omega) ub
          have e : trR at_ (kept[i]'(by omega)) = ⟨⟨#[]⟩, (p : Int), (q : Int)⟩ := by unfold trR; rw [if_pos h0, p1, q1]
          rw [e]
          refine ⟨wf_snoc h.wf ⟨by omega, by omega⟩ ⟨by omega, by omega⟩, ?_⟩
          rw [full_pair d F G hwk hr h0, ← p3, ← q3]
          show (if (0 : Nat) = 0 then G ((full d F G out).getD (p : Int).toNat d) ((full d F G out).getD (q : Int).toNat d) _ else _) = _
          rw [if_pos rfl, Int.toNat_natCast, Int.toNat_natCast]
          exact hG _ _ _ _
        · have h0 : (kept[i]'(by omega)).l.size ≠ 0 := by rw [hl]; show (1 : Nat) ≠ 0; omega
          have e : trR at_ (kept[i]'(by omega)) = kept[i]'(by omega) := by unfold trR; rw [if_neg h0]
          rw [e, full_let d F G hr h0]
          refine ⟨fun k r hk => ?_, by unfold fStep; rw [if_neg h0]⟩
          by_cases hlt : k < out.length
          · rw [List.getElem?_append_left hlt] at hk; exact h.wf k r hk
          · rw [List.getElem?_append_right (by omega)] at hk
            have : r = kept[i]'(by omega) := by
              have h2 := (List.getElem?_eq_some_iff.1 hk).1
              simp only [List.length_cons, List.length_nil] at h2
              rw [show k - out.length = 0 by omega] at hk
              exact (Option.some.inj hk).symm
            subst this
            exact .inr ⟨c, hc, hl, ha, hb⟩
      refine ⟨hval.1, by simp [h.la], fun j hj hj2 => ?_, fun p hp => ?_, fun s hs hs2 hs3 => ?_⟩
      · by_cases e : j = i
        · subst e
          refine ⟨out.length, ?_, by simp, ?_⟩
          · rw [List.getD_eq_getElem?_getD, List.getElem?_set_self (by rw [h.la]; omega)]; rfl
          · rw [full_new, hval.2]
        · obtain ⟨p, p1, p2, p3⟩ := h.v j (by omega) hj2
          refine ⟨p, ?_, by simp; omega, ?_⟩
          · rw [List.getD_eq_getElem?_getD, List.getElem?_set_ne (fun e' => e e'.symm), ← List.getD_eq_getElem?_getD]; exact p1
          · rw [full_old d F G _ _ p2]; exact p3
      · simp only [List.length_append, List.length_singleton] at hp
        by_cases e : p < out.length
        · obtain ⟨j, j1, j2⟩ := h.p p e
          exact ⟨j, j1, by rw [full_old d F G _ _ e]; exact j2⟩
        · obtain rfl : p = out.length := by omega
          exact ⟨i, by omega, by rw [full_new, hval.2]⟩
      · by_cases e : s = i
        · subst e
          refine ⟨by simp, ?_⟩
          rw [List.getD_eq_getElem?_getD, List.getElem?_set_self (by rw [h.la]; omega)]
          simp
        · exfalso
          have := hs3 i (by omega)
          rw [hui] at this; cases this
    · rw [if_neg hui]
      refine outT_I hwk hu n (i + 1) _ _ (by omega) ⟨h.wf, h.la, fun j hj hj2 => ?_, h.p, fun s hs hs2 hs3 => ?_⟩
      · by_cases e : j = i
        · subst e; exact absurd hj2 hui
        · exact h.v j (by omega) hj2
      · by_cases e : s = i
        · subst e; exact absurd hs2 hui
        · exact h.z s (by omega) hs2 hs3
/-- the last value, and where each value comes from -/
theorem trim_val {rs : List Fac} (hwf : WF rs) (h0 : 0 < rs.length) : WF (trimL rs) ∧ 0 < (trimL rs).length ∧ (full d F G (trimL rs)).getD ((trimL rs).length - 1) d = (full d F G rs).getD (rs.length - 1) d ∧
    ∀ p, p < (trimL rs).length → ∃ j, j < rs.length ∧ (full d F G (trimL rs)).getD p d = (full d F G rs).getD j d := by
  obtain ⟨hT, hwk⟩ := tk_all hwf
  have hkv := kept_val d F G hG hwf hT hwk
  have htr : trimL rs = outT (useT (trK rs [] []).1 rs.length (use0 rs.length (trK rs [] []).2)) 0 (trK rs [] []).1 [] (List.replicate rs.length 0) := by unfold trimL; rw [if_neg (by omega)]
  rw [htr]
  generalize (trK rs [] []).1 = kept at *
  generalize (trK rs [] []).2 = same at *
  obtain ⟨s, h1, h2, h3⟩ := hT.s (rs.length - 1) (by omega)
  have hlk := hT.lk
  have hu0 : ∀ j, (use0 rs.length same).getD j false = decide (j = s) := fun j => by
    unfold use0
    rw [h1, Int.toNat_natCast, set_getD (by simp; omega)]
    by_cases e : s = j
    · rw [if_pos e]; simp [e]
    · rw [if_neg e, List.getD_eq_getElem?_getD, List.getElem?_replicate]
      have : decide (j = s) = false := by simp; exact fun h => e h.symm
      rw [this]; split <;> rfl
  obtain ⟨u1, u2, u3, u4, u5⟩ := useT_I hwk rs.length (use0 rs.length same) (by omega) (by unfold use0; simp [hlk])
  have hus : (useT kept rs.length (use0 rs.length same)).getD s false = true := u3 s (by rw [hu0]; simp)
  have hul : ∀ j, s < j → (useT kept rs.length (use0 rs.length same)).getD j false = false := u5 s (fun j hj => by rw [hu0]; simp; omega)
  obtain ⟨at2, hO⟩ := outT_I d F G hG hwk (fun i r hi h0 hu => u4 i r (by have := (List.getElem?_eq_some_iff.1 hi).1; omega) hi h0 hu) kept.length 0 [] (List.replicate rs.length 0) (by omega)
    ⟨wf_nil, by simp [hlk], fun j hj => absurd hj (by omega), fun p hp => absurd hp (by simp), fun s hs => absurd hs (by omega)⟩
  rw [List.drop_zero] at hO
  obtain ⟨z1, z2⟩ := hO.z s (by omega) hus hul
  obtain ⟨p, p1, p2, p3⟩ := hO.v s (by omega) hus
  refine ⟨hO.wf, z1, ?_, fun p hp => ?_⟩
  · have : p = (outT (useT kept rs.length (use0 rs.length same)) 0 kept [] (List.replicate rs.length 0)).length - 1 := by omega
    rw [← this, p3, hkv s (by omega), ← hkv (rs.length - 1) (by omega), ← hkv s (by omega)]
    have hj' : kept[rs.length - 1]? = some (kept[rs.length - 1]'(by omega)) := List.getElem?_eq_getElem _
    exact full_same d F G hwk (h3.trans hj') hj'
  · obtain ⟨j, j1, j2⟩ := hO.p p hp
    exact ⟨j, by omega, by rw [j2]; exact hkv j (by omega)⟩
end

/-- a grammar whose lengths are not too great is valid -/
theorem gLens_of {rs : List Fac} (hwf : WF rs) (hb : ∀ k, k < rs.length → (full 0 lenF lenG rs).getD k 0 ≤ 1000000000000000) : ∀ (n k : Nat), k + n = rs.length → (gLens (rs.drop k) (outs 0 lenF lenG rs k)).isSome = true
  | 0, k, hk => by rw [List.drop_of_length_le (by omega)]; rfl
  | n + 1, k, hk => by
    have hr : rs[k]? = some (rs[k]'(by omega)) := List.getElem?_eq_getElem _
    rw [drop_cons hr]
    have hol : (outs 0 lenF lenG rs k).length = k := outs_len 0 lenF lenG rs k (by omega)
    have hst : gStep (outs 0 lenF lenG rs k) (rs[k]'(by omega)) = some (fStep 0 lenF lenG (outs 0 lenF lenG rs k) (rs[k]'(by omega))) := by
      have hv := hb k (by omega)
      rw [full_at 0 lenF lenG hr] at hv
      unfold gStep
      unfold fStep at hv ⊢
      rcases hwf k _ hr with ⟨h0, a0, a1, b0, b1⟩ | ⟨c, hc, hl, ha, hb'⟩
      · rw [if_pos h0] at hv ⊢
        rw [if_pos h0, if_pos ⟨a0, by omega, b0, by omega, hv⟩]; rfl
      · have h0 : (rs[k]'(by omega)).l.size ≠ 0 := by rw [hl]; show (1 : Nat) ≠ 0; omega
        rw [if_neg h0, if_neg h0, if_pos ⟨by rw [hl]; exact hc, ha, hb'⟩]; rfl
    unfold gLens
    rw [hst]
    show (gLens (rs.drop (k + 1)) (outs 0 lenF lenG rs k ++ [fStep 0 lenF lenG (outs 0 lenF lenG rs k) (rs[k]'(by omega))])).isSome = true
    rw [← outs_step 0 lenF lenG hr]
    exact gLens_of hwf hb n (k + 1) (by omega)
/-- a trimmed grammar is valid, if it has not too many rules -/
theorem trim_ok {rs : List Fac} (hwf : WF rs) (hb : ∀ k, k < rs.length → (full 0 lenF lenG rs).getD k 0 ≤ 1000000000000000) (hn : (trimL rs).length ≤ 400) : (gOk (trimL rs)).isSome = true := by
  unfold gOk
  rw [if_neg (by omega)]
  by_cases h0 : rs.length = 0
  · have : trimL rs = [] := by unfold trimL; rw [if_pos h0]
    rw [this]; rfl
  · obtain ⟨h1, h2, _, h4⟩ := trim_val 0 lenF lenG (fun _ _ _ _ => rfl) hwf (by omega)
    have := gLens_of h1 (fun k hk => by obtain ⟨j, j1, j2⟩ := h4 k hk; rw [j2]; exact hb j j1) (trimL rs).length 0 (by omega)
    simpa [outs, foldG] using this
end Go.Proofs.Ytikhjoianbndhaa
