/-
  A part of a word, as the reference cuts it: the plain part.
-/
import Derived.Test.YtkknhpailohjcaaPieces
import Derived.Test.YtkknhpailohjcaaGramL
import Derived.Test.YtkknhpailohjcaaFoldT
namespace Go.Proofs.Ytkknhpailohjcaa

/-- the rules of which a part of the word of a rule is made -/
def cov (ls : List Int) (rs : List Fac) : Nat → Nat → Int → Int → List Nat
  | 0, _, _, _ => []
  | f + 1, r, i, j =>
    if j ≤ i then [] else if i = 0 ∧ j = ls.getD r 0 then [r] else
    match rs[r]? with
    | none => []
    | some x => cov ls rs f x.a.toNat i (min j (ls.getD x.a.toNat 0)) ++ cov ls rs f x.b.toNat (max (i - ls.getD x.a.toNat 0) 0) (j - ls.getD x.a.toNat 0)
section
variable {ls : List Int} {rs : List Fac}
theorem cov_no {f r : Nat} {i j : Int} (h : j ≤ i) : cov ls rs f r i j = [] := by
  cases f with
  | zero => rfl
  | succ f => rw [cov, if_pos h]
theorem cov_one {f r : Nat} {i j : Int} (hf : r < f) (h : ¬ j ≤ i) (h2 : i = 0 ∧ j = ls.getD r 0) : cov ls rs f r i j = [r] := by
  obtain ⟨g, rfl⟩ : ∃ g, f = g + 1 := ⟨f - 1, by omega⟩
  rw [cov, if_neg h, if_pos h2]
theorem cov_go {f r : Nat} {i j : Int} {x : Fac} (hf : r < f) (h : ¬ j ≤ i) (h2 : ¬ (i = 0 ∧ j = ls.getD r 0)) (hx : rs[r]? = some x) :
    cov ls rs f r i j = cov ls rs (f - 1) x.a.toNat i (min j (ls.getD x.a.toNat 0)) ++ cov ls rs (f - 1) x.b.toNat (max (i - ls.getD x.a.toNat 0) 0) (j - ls.getD x.a.toNat 0) := by
  obtain ⟨g, rfl⟩ : ∃ g, f = g + 1 := ⟨f - 1, by omega⟩
  rw [cov, if_neg h, if_neg h2, hx]
  rfl
theorem max_eq_l {a b : Int} (h : b ≤ a) : max a b = a := by omega
theorem cov_pcs (hls : gLens rs [] = some ls) {i j : Int} (hij : i < j) : ∀ (r f : Nat) (a : Int), r < f → r < rs.length → pcs ls rs i j f r a = cov ls rs f r (max (i - a) 0) (min (j - a) (ls.getD r 0)) := by
  intro r
  induction r using Nat.strongRecOn with
  | ind r ih =>
    intro f a hf hr
    have lb := lens_bound hls hr
    by_cases h1 : a + ls.getD r 0 ≤ i
    · rw [pcs_out1 h1, cov_no (by omega)]
    by_cases h2 : j ≤ a
    · rw [pcs_out2 h2, cov_no (by omega)]
    by_cases h3 : i ≤ a ∧ a + ls.getD r 0 ≤ j
    · rw [pcs_in hf h1 h2 h3.1 h3.2, cov_one hf (by omega) (by omega)]
    have gx : rs[r]? = some (rs[r]'hr) := List.getElem?_eq_getElem _
    rcases wf_of hls r _ gx with ⟨h0, ha0, ha1, hb0, hb1⟩ | ⟨cc, _, hxl, _⟩
    · have lp := lens_pair hls gx h0
      have la := lens_bound hls (i := (rs[r]'hr).a.toNat) (by omega)
      have lb2 := lens_bound hls (i := (rs[r]'hr).b.toNat) (by omega)
      rw [pcs_go hf h1 h2 h3 gx, cov_go hf (by omega) (by omega) gx, ih (rs[r]'hr).a.toNat (by omega) (f - 1) a (by omega) (by omega), ih (rs[r]'hr).b.toNat (by omega) (f - 1) _ (by omega) (by omega)]
      congr 1
      · congr 1; omega
      · congr 1 <;> omega
    · exfalso
      have h0 : (rs[r]'hr).l.size ≠ 0 := by rw [hxl]; show (1 : Nat) ≠ 0; omega
      have := lens_let hls gx h0
      omega
/-- the sum of the lengths of some rules -/
def sumL (ls : List Int) : List Nat → Int
  | [] => 0
  | k :: t => ls.getD k 0 + sumL ls t
theorem sumL_app (xs ys : List Nat) : sumL ls (xs ++ ys) = sumL ls xs + sumL ls ys := by
  induction xs with
  | nil => simp [sumL]
  | cons x r ih => simp [sumL, ih]; omega
/-- what a cover is: earlier rules, not many, as long together as the part -/
theorem cov_ok (hls : gLens rs [] = some ls) : ∀ (r f : Nat) (i j : Int), r < f → r < rs.length → 0 ≤ i → j ≤ ls.getD r 0 →
    (∀ k ∈ cov ls rs f r i j, k ≤ r) ∧ (cov ls rs f r i j).length ≤ 2 * (r + 1) ∧ (i = 0 → (cov ls rs f r i j).length ≤ r + 1) ∧ (j = ls.getD r 0 → (cov ls rs f r i j).length ≤ r + 1) ∧ (i ≤ j → sumL ls (cov ls rs f r i j) = j - i) := by
  intro r
  induction r using Nat.strongRecOn with
  | ind r ih =>
    intro f i j hf hr hi hj
    by_cases h1 : j ≤ i
    · rw [cov_no h1]
      refine ⟨by simp, by simp, by simp, by simp, fun h => ?_⟩
      show (0 : Int) = _; omega
    by_cases h2 : i = 0 ∧ j = ls.getD r 0
    · rw [cov_one hf h1 h2]
      refine ⟨by simp, by simp; omega, by simp, by simp, fun h => ?_⟩
      show ls.getD r 0 + 0 = _; omega
    have gx : rs[r]? = some (rs[r]'hr) := List.getElem?_eq_getElem _
    rcases wf_of hls r _ gx with ⟨h0, ha0, ha1, hb0, hb1⟩ | ⟨cc, _, hxl, _⟩
    · have lp := lens_pair hls gx h0
      have la := lens_bound hls (i := (rs[r]'hr).a.toNat) (by omega)
      have lb2 := lens_bound hls (i := (rs[r]'hr).b.toNat) (by omega)
      rw [cov_go hf h1 h2 gx]
      have A := ih (rs[r]'hr).a.toNat (by omega) (f - 1) i (min j (ls.getD (rs[r]'hr).a.toNat 0)) (by omega) (by omega) hi (by omega)
      have B := ih (rs[r]'hr).b.toNat (by omega) (f - 1) (max (i - ls.getD (rs[r]'hr).a.toNat 0) 0) (j - ls.getD (rs[r]'hr).a.toNat 0) (by omega) (by omega) (by omega) (by omega)
      have A0 : min j (ls.getD (rs[r]'hr).a.toNat 0) ≤ i → (cov ls rs (f - 1) (rs[r]'hr).a.toNat i (min j (ls.getD (rs[r]'hr).a.toNat 0))).length = 0 ∧ sumL ls (cov ls rs (f - 1) (rs[r]'hr).a.toNat i (min j (ls.getD (rs[r]'hr).a.toNat 0))) = 0 := fun h => by rw [cov_no h]; exact ⟨rfl, rfl⟩
      have A1 : i = 0 → ls.getD (rs[r]'hr).a.toNat 0 ≤ j → (cov ls rs (f - 1) (rs[r]'hr).a.toNat i (min j (ls.getD (rs[r]'hr).a.toNat 0))).length = 1 := fun h h' => by rw [cov_one (by omega) (by omega) (by omega)]; rfl
      have B0 : j - ls.getD (rs[r]'hr).a.toNat 0 ≤ max (i - ls.getD (rs[r]'hr).a.toNat 0) 0 → (cov ls rs (f - 1) (rs[r]'hr).b.toNat (max (i - ls.getD (rs[r]'hr).a.toNat 0) 0) (j - ls.getD (rs[r]'hr).a.toNat 0)).length = 0 ∧ sumL ls (cov ls rs (f - 1) (rs[r]'hr).b.toNat (max (i - ls.getD (rs[r]'hr).a.toNat 0) 0) (j - ls.getD (rs[r]'hr).a.toNat 0)) = 0 := fun h => by rw [cov_no h]; exact ⟨rfl, rfl⟩
      have B1 : j = ls.getD r 0 → i ≤ ls.getD (rs[r]'hr).a.toNat 0 → (cov ls rs (f - 1) (rs[r]'hr).b.toNat (max (i - ls.getD (rs[r]'hr).a.toNat 0) 0) (j - ls.getD (rs[r]'hr).a.toNat 0)).length = 1 := fun h h' => by rw [cov_one (by omega) (by omega) (by omega)]; rfl
      rw [sumL_app]
      generalize hX : cov ls rs (f - 1) (rs[r]'hr).a.toNat i (min j (ls.getD (rs[r]'hr).a.toNat 0)) = X at *
      generalize hY : cov ls rs (f - 1) (rs[r]'hr).b.toNat (max (i - ls.getD (rs[r]'hr).a.toNat 0) 0) (j - ls.getD (rs[r]'hr).a.toNat 0) = Y at *
      obtain ⟨a1, a2, a3, a4, a5⟩ := A
      obtain ⟨b1, b2, b3, b4, b5⟩ := B
      have hxl : X.length ≤ 2 * r := by omega
      have hyl : Y.length ≤ 2 * r := by omega
      refine ⟨fun k hk => ?_, ?_, fun h => ?_, fun h => ?_, fun h => ?_⟩
      · rcases List.mem_append.1 hk with hk | hk
        · have := a1 k hk; omega
        · have := b1 k hk; omega
      · rw [List.length_append]
        by_cases q1 : j ≤ ls.getD (rs[r]'hr).a.toNat 0
        · have := B0 (by omega); omega
        by_cases q2 : ls.getD (rs[r]'hr).a.toNat 0 ≤ i
        · have := A0 (by omega); omega
        have := a4 (by omega)
        have := b3 (by omega)
        omega
      · rw [List.length_append]
        by_cases q1 : j ≤ ls.getD (rs[r]'hr).a.toNat 0
        · have := B0 (by omega); have := a3 h; omega
        · have := A1 h (by omega); have := b3 (by omega); omega
      · rw [List.length_append]
        by_cases q2 : ls.getD (rs[r]'hr).a.toNat 0 < i
        · have := A0 (by omega); have := b4 (by omega); omega
        · have := B1 h (by omega); have := a4 (by omega); omega
      · by_cases q1 : j ≤ ls.getD (rs[r]'hr).a.toNat 0
        · have := B0 (by omega); have := a5 (by omega); omega
        by_cases q2 : ls.getD (rs[r]'hr).a.toNat 0 ≤ i
        · have := A0 (by omega); have := b5 (by omega); omega
        have := a5 (by omega); have := b5 (by omega); omega
    · exfalso
      have h0 : (rs[r]'hr).l.size ≠ 0 := by rw [hxl]; show (1 : Nat) ≠ 0; omega
      have := lens_let hls gx h0
      omega
/-- the cover of a part of the word -/
def covT (ls : List Int) (rs : List Fac) (i j : Int) : List Nat := cov ls rs rs.length (rs.length - 1) i j
theorem covT_pcs (hls : gLens rs [] = some ls) (hll : ls.length = rs.length) {i j : Int} (hi : 0 ≤ i) (hij : i < j) (hj : j ≤ lastI ls) : pcsT ls rs i j = covT ls rs i j := by
  have hp : 0 < rs.length := by
    rcases Nat.eq_zero_or_pos rs.length with h | h
    · have : lastI ls = 0 := by unfold lastI; rw [List.eq_nil_of_length_eq_zero (hll.trans h)]; rfl
      omega
    · exact h
  have e : lastI ls = ls.getD (rs.length - 1) 0 := by unfold lastI; rw [hll]
  unfold pcsT covT
  rw [if_pos (by omega), cov_pcs hls hij _ _ _ (by omega) (by omega)]
  congr 1 <;> omega
theorem covT_ok (hls : gLens rs [] = some ls) (hll : ls.length = rs.length) {i j : Int} (hi : 0 ≤ i) (hij : i < j) (hj : j ≤ lastI ls) :
    0 < rs.length ∧ (∀ k ∈ covT ls rs i j, k < rs.length) ∧ (covT ls rs i j).length ≤ 2 * rs.length ∧ sumL ls (covT ls rs i j) = j - i ∧ 0 < (covT ls rs i j).length := by
  have hp : 0 < rs.length := by
    rcases Nat.eq_zero_or_pos rs.length with h | h
    · have : lastI ls = 0 := by unfold lastI; rw [List.eq_nil_of_length_eq_zero (hll.trans h)]; rfl
      omega
    · exact h
  have e : lastI ls = ls.getD (rs.length - 1) 0 := by unfold lastI; rw [hll]
  obtain ⟨h1, h2, _, _, h5⟩ := cov_ok hls (rs.length - 1) rs.length i j (by omega) (by omega) hi (by omega)
  have h5' := h5 (by omega)
  refine ⟨hp, fun k hk => by have := h1 k hk; omega, by unfold covT; omega, h5', ?_⟩
  rcases hc : covT ls rs i j with _ | ⟨x, t⟩
  · unfold covT at hc; rw [hc] at h5'; have : sumL ls [] = 0 := rfl; omega
  · simp
end
/-- pairs that put a cover together, behind n rules -/
def chain (n last : Nat) : List Nat → List Fac
  | [] => []
  | k :: t => ⟨⟨#[]⟩, (last : Int), (k : Int)⟩ :: chain (n + 1) n t
theorem chain_len : ∀ (t : List Nat) (n last : Nat), (chain n last t).length = t.length
  | [], _, _ => rfl
  | _ :: t, n, _ => by show (chain (n + 1) n t).length + 1 = _; rw [chain_len t]; rfl
/-- the rules of a part -/
def cutL (rs : List Fac) : List Nat → List Fac
  | [] => []
  | [c] => rs.take (c + 1)
  | c :: k :: t => rs ++ chain rs.length c (k :: t)
theorem gLens_app : ∀ (xs ys : List Fac) (out : List Int), gLens (xs ++ ys) out = (gLens xs out).bind (gLens ys)
  | [], _, _ => rfl
  | x :: xs, ys, out => by
    show (gStep out x).bind (fun n => gLens (xs ++ ys) (out ++ [n])) = ((gStep out x).bind fun n => gLens xs (out ++ [n])).bind (gLens ys)
    rcases gStep out x with _ | n
    · rfl
    · exact gLens_app xs ys _
theorem gLens_take {rs : List Fac} {ls : List Int} (h : gLens rs [] = some ls) (k : Nat) : ∃ ls', gLens (rs.take k) [] = some ls' := by
  have e := gLens_app (rs.take k) (rs.drop k) []
  rw [List.take_append_drop, h] at e
  rcases hg : gLens (rs.take k) [] with _ | l
  · rw [hg] at e; cases e
  · exact ⟨l, rfl⟩
theorem gLens_chain {M : Int} (hM : M ≤ 1000000000000000) : ∀ (t : List Nat) (n last : Nat) (out : List Int), out.length = n → last < n → (∀ k ∈ t, k < n) → (∀ x ∈ out, 1 ≤ x) → out.getD last 0 + sumL out t ≤ M → ∃ ls', gLens (chain n last t) out = some ls'
  | [], _, _, out, _, _, _, _, _ => ⟨out, rfl⟩
  | k :: t, n, last, out, hn, hl, hk, ho, hs => by
    have hkn := hk k (by simp)
    have p1 : ∀ i, i < n → 1 ≤ out.getD i 0 := fun i hi => ho _ (by rw [List.getD_eq_getElem?_getD, List.getElem?_eq_getElem (by omega)]; simp)
    have pt : ∀ (l : List Nat), (∀ k ∈ l, k < n) → 0 ≤ sumL out l := fun l => by
      induction l with
      | nil => intro _; exact Int.le_refl _
      | cons a r ih =>
        intro h
        have := ih (fun k hk => h k (by simp [hk]))
        have := p1 a (h a (by simp))
        show 0 ≤ out.getD a 0 + sumL out r
        omega
    have ht := pt t (fun k hk' => hk k (by simp [hk']))
    have hs' : out.getD last 0 + (out.getD k 0 + sumL out t) ≤ M := hs
    have hg : gStep out ⟨⟨#[]⟩, (last : Int), (k : Int)⟩ = some (out.getD last 0 + out.getD k 0) := by
      unfold gStep
      rw [if_pos (by rfl), if_pos ?_]
      · simp only [Int.toNat_natCast]
      · simp only [Int.toNat_natCast]; omega
    have hsum : ∀ (l : List Nat), (∀ k ∈ l, k < n) → sumL (out ++ [out.getD last 0 + out.getD k 0]) l = sumL out l := fun l => by
      induction l with
      | nil => intro _; rfl
      | cons a r ih =>
        intro h
        show (out ++ _).getD a 0 + sumL (out ++ _) r = out.getD a 0 + sumL out r
        rw [ih (fun k hk => h k (by simp [hk])), List.getD_eq_getElem?_getD, List.getElem?_append_left (by have := h a (by simp); omega), ← List.getD_eq_getElem?_getD]
    obtain ⟨ls', h⟩ := gLens_chain hM t (n + 1) n (out ++ [out.getD last 0 + out.getD k 0]) (by simp [hn]) (by omega) (fun k hk' => by have := hk k (by simp [hk']); omega)
      (fun x hx => by
        rcases List.mem_append.1 hx with hx | hx
        · exact ho x hx
        · have := p1 last hl; have := p1 k hkn
          rw [List.mem_singleton.1 hx]; omega)
      (by
        have e0 : (out ++ [out.getD last 0 + out.getD k 0]).getD n 0 = out.getD last 0 + out.getD k 0 := by
          rw [List.getD_eq_getElem?_getD, List.getElem?_append_right (by omega), hn, Nat.sub_self]; rfl
        rw [hsum t (fun k hk' => hk k (by simp [hk'])), e0]
        omega)
    refine ⟨ls', ?_⟩
    show (gStep out _).bind (fun n => gLens (chain _ _ t) (out ++ [n])) = _
    rw [hg]
    exact h
theorem cut_lens {rs : List Fac} {ls : List Int} (hls : gLens rs [] = some ls) (hll : ls.length = rs.length) {i j : Int} (hi : 0 ≤ i) (hij : i < j) (hj : j ≤ lastI ls) (hj2 : j ≤ 1000000000000000) : ∃ ls', gLens (cutL rs (covT ls rs i j)) [] = some ls' := by
  obtain ⟨hp, h1, h2, h3, h4⟩ := covT_ok hls hll hi hij hj
  rcases hc : covT ls rs i j with _ | ⟨c, _ | ⟨k, t⟩⟩
  · exact ⟨[], rfl⟩
  · exact gLens_take hls _
  · rw [hc] at h1 h3
    show ∃ ls', gLens (rs ++ chain rs.length c (k :: t)) [] = some ls'
    rw [gLens_app, hls]
    exact gLens_chain (M := 1000000000000000) (Int.le_refl _) (k :: t) rs.length c ls hll (h1 c (by simp)) (fun x hx => h1 x (by simp only [List.mem_cons] at hx ⊢; exact .inr hx)) (fun x hx => by
      obtain ⟨a, ha, he⟩ := List.getElem_of_mem hx
      have := (lens_bound hls (i := a) (by omega)).1
      rw [List.getD_eq_getElem?_getD, List.getElem?_eq_getElem ha] at this
      simpa [he] using this) (by
        have h3' : ls.getD c 0 + sumL ls (k :: t) = j - i := h3
        omega)
theorem cut_len {rs : List Fac} : ∀ (l : List Nat), (∀ k ∈ l, k < rs.length) → (cutL rs l).length ≤ rs.length + l.length
  | [], _ => by simp [cutL]
  | [c], _ => by show (rs.take (c + 1)).length ≤ _; simp; omega
  | c :: k :: t, _ => by show (rs ++ chain rs.length c (k :: t)).length ≤ _; rw [List.length_append, chain_len]; simp
section
variable {α : Type} (d : α) (F : Nat → α) (G : α → α → Fac → α)
/-- what is made of the pairs of a chain -/
theorem chain_fold (hG : ∀ x y r r', G x y r = G x y r') : ∀ (t : List Nat) (n last : Nat) (out : List α), out.length = n → last < n → (∀ k ∈ t, k < n) →
    (foldG d F G (chain n last t) out).getD (if t = [] then last else n + t.length - 1) d = t.foldl (fun s k => G s (out.getD k d) default) (out.getD last d)
  | [], _, _, _, _, _, _ => rfl
  | k :: t, n, last, out, hn, hl, hk => by
    have hkn := hk k (by simp)
    show (foldG d F G (chain (n + 1) n t) (out ++ [fStep d F G out ⟨⟨#[]⟩, (last : Int), (k : Int)⟩])).getD (if k :: t = [] then last else n + (t.length + 1) - 1) d = t.foldl (fun s k => G s (out.getD k d) default) (G (out.getD last d) (out.getD k d) default)
    have hf : fStep d F G out ⟨⟨#[]⟩, (last : Int), (k : Int)⟩ = G (out.getD last d) (out.getD k d) default := by
      unfold fStep
      rw [if_pos (by rfl)]
      simp only [Int.toNat_natCast]
      exact hG _ _ _ _
    rw [hf]
    have h := chain_fold hG t (n + 1) n (out ++ [G (out.getD last d) (out.getD k d) default]) (by simp [hn]) (by omega) (fun k hk' => by have := hk k (by simp [hk']); omega)
    rw [if_neg (by simp), show n + (t.length + 1) - 1 = if t = [] then n else n + 1 + t.length - 1 from ?_, h]
    · have e0 : (out ++ [G (out.getD last d) (out.getD k d) default]).getD n d = G (out.getD last d) (out.getD k d) default := by
        rw [List.getD_eq_getElem?_getD, List.getElem?_append_right (by omega), hn]; simp
      rw [e0]
      have : ∀ (l : List Nat) (s : α), (∀ k ∈ l, k < n) → l.foldl (fun s k' => G s ((out ++ [G (out.getD last d) (out.getD k d) default]).getD k' d) default) s = l.foldl (fun s k => G s (out.getD k d) default) s := fun l => by
        induction l with
        | nil => intro _ _; rfl
        | cons a r ih =>
          intro s h
          rw [List.foldl_cons, List.foldl_cons, ih _ (fun k hk => h k (by simp [hk]))]
          congr 2
          rw [List.getD_eq_getElem?_getD, List.getElem?_append_left (by have := h a (by simp); omega), ← List.getD_eq_getElem?_getD]
      exact this t _ (fun k hk' => hk k (by simp [hk']))
    · split
      · rename_i h; rw [h]; simp
      · omega
/-- what is made of the last rule of a part -/
theorem cut_full (hG : ∀ x y r r', G x y r = G x y r') {rs : List Fac} {c : Nat} {t : List Nat} (hk : ∀ k ∈ c :: t, k < rs.length) :
    (full d F G (cutL rs (c :: t))).getD ((cutL rs (c :: t)).length - 1) d = t.foldl (fun s k => G s ((full d F G rs).getD k d) default) ((full d F G rs).getD c d) := by
  have hc := hk c (by simp)
  rcases t with _ | ⟨k, t⟩
  · show (full d F G (rs.take (c + 1))).getD ((rs.take (c + 1)).length - 1) d = _
    rw [List.length_take, show min (c + 1) rs.length - 1 = c by omega]
    exact outs_full d F G (k := c + 1) (by omega) (by omega)
  · show (full d F G (rs ++ chain rs.length c (k :: t))).getD ((rs ++ chain rs.length c (k :: t)).length - 1) d = _
    unfold full
    rw [foldG_app, List.length_append, chain_len]
    have h := chain_fold d F G hG (k :: t) rs.length c (foldG d F G rs []) (by rw [foldG_len]; simp) hc (fun x hx => hk x (by simp only [List.mem_cons] at hx ⊢; exact .inr hx))
    rw [if_neg (by simp)] at h
    exact h
end
end Go.Proofs.Ytkknhpailohjcaa
