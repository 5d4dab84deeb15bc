/-
  The grammar of the phrases of a word: where the rounds begin and what they leave.
-/
import Derived.Test.YtikhjoianbndhaaPhgM
namespace Go.Proofs.Ytikhjoianbndhaa

theorem ksP_let {w : List UInt8} {c : UInt8} (h : c ∈ ksP w) : letB c = true := by
  unfold ksP at h
  have := (List.mem_filter.1 h).1
  simp only [List.mem_cons, List.not_mem_nil, or_false] at this
  rcases this with rfl | rfl | rfl | rfl <;> rfl
theorem ksP_nodup (w : List UInt8) : (ksP w).Nodup := by
  unfold ksP
  exact List.Pairwise.filter _ (show ([97, 98, 99, 100] : List UInt8).Nodup by decide)
theorem letters_at {w : List UInt8} {k : Nat} {r : Fac} (hr : (lettersP w)[k]? = some r) : ∃ c, (ksP w)[k]? = some c ∧ r = ruleC c := by
  unfold lettersP at hr
  rw [List.getElem?_map, Option.map_eq_some_iff] at hr
  obtain ⟨c, hc, rfl⟩ := hr
  exact ⟨c, hc, rfl⟩
theorem letters_wf (w : List UInt8) : WF (lettersP w) := fun k r hr => by
  obtain ⟨c, hc, rfl⟩ := letters_at hr
  exact .inr ⟨c, ksP_let (List.mem_of_getElem? hc), rfl, rfl, rfl⟩
theorem letters_lenV (w : List UInt8) {k : Nat} (hk : k < (lettersP w).length) : lenV (lettersP w) k = 1 := by
  unfold lenV
  obtain ⟨r, hr⟩ : ∃ r, (lettersP w)[k]? = some r := ⟨_, List.getElem?_eq_getElem hk⟩
  obtain ⟨c, hc, rfl⟩ := letters_at hr
  exact full_let 0 lenF lenG hr (show (1 : Nat) ≠ 0 by omega)
theorem num0_some {ks : List UInt8} {x : ByteArray} {k : Int} (h : num0 ks x = some k) : x.size = 1 ∧ headB x ∈ ks ∧ k = ((ks.idxOf (headB x) : Nat) : Int) := by
  unfold num0 at h
  split at h
  · rename_i q
    exact ⟨q.1, q.2, by injection h with h; exact h.symm⟩
  · cases h
def phg0 (w : List UInt8) : PhS := ⟨lettersP w, num0 (ksP w), []⟩
theorem phI_init {w : List UInt8} (hl : ∀ c ∈ w, letB c = true) : PhI w (phg0 w) [] := by
  refine ⟨letters_wf w, fun k hk => ?_, fun x k hx => ?_, fun c hc => ?_, fun q hq => by simp at hq, fun x k hx => .inr (num0_some hx).1, rfl⟩
  · show 0 ≤ lenV (lettersP w) k ∧ lenV (lettersP w) k ≤ 2000
    rw [letters_lenV w hk]; omega
  · obtain ⟨h1, h2, rfl⟩ := num0_some hx
    have h3 := List.idxOf_lt_length_of_mem h2
    have h4 : (lettersP w).length = (ksP w).length := by unfold lettersP; simp
    refine ⟨by omega, ?_, ?_⟩
    · show _ < (((lettersP w).length : Nat) : Int)
      omega
    · show lenV (lettersP w) _ = _
      rw [letters_lenV w (by simp; omega), h1]; rfl
  · show num0 (ksP w) _ = _
    unfold num0
    rw [if_pos ⟨rfl, mem_ks hc (hl c hc)⟩]; rfl
theorem mem_catS {c : UInt8} : ∀ {out : List ByteArray} {p : ByteArray}, p ∈ out → c ∈ p.data.toList → c ∈ (catS out).data.toList
  | [], _, hp, _ => by simp at hp
  | x :: r, p, hp, hc => by
    rw [catS, ByteArray.data_append, Array.toList_append, List.mem_append]
    rcases List.mem_cons.1 hp with rfl | hp
    · exact .inl hc
    · exact .inr (mem_catS hp hc)
theorem size_catS : ∀ {out : List ByteArray} {p : ByteArray}, p ∈ out → p.size ≤ (catS out).size
  | [], _, hp => by simp at hp
  | x :: r, p, hp => by
    rw [catS, ByteArray.size_append]
    rcases List.mem_cons.1 hp with rfl | hp
    · omega
    · have := size_catS hp; omega
theorem cat_phr (s : ByteArray) : catS (phr s 0 []) = s := by
  rw [(phr_all s).cat]; simp
theorem phOk_of {s : ByteArray} (hs : s.size ≤ 2000) : PhOk s.data.toList (phr s 0 []) := by
  have I := phr_all s
  have hc := cat_phr s
  intro i p hp
  have hm := List.mem_of_getElem? hp
  refine ⟨I.pos i p hp, ?_, fun c hcp => ?_, ?_⟩
  · have := size_catS hm
    rw [hc] at this; omega
  · have := mem_catS hm hcp
    rw [hc] at this; exact this
  · rcases I.before i p hp with q | ⟨k, q, hk, hq, e⟩
    · exact .inl q
    · have hmk : q ∈ (phr s 0 []).take i := by
        refine List.mem_of_getElem? (i := k) ?_
        rw [List.getElem?_take, if_pos hk]; exact hq
      rcases e with rfl | rfl
      · exact .inr (.inl hmk)
      · exact .inr (.inr hmk)
theorem sum_phr {w : List UInt8} {S : PhS} {ps : List ByteArray} (h : PhI w S ps) : ∀ qs : List ByteArray, (∀ q ∈ qs, q ∈ ps) → sumV S.rs (qs.map fun q => (S.m q).getD 0) = ((catS qs).size : Int)
  | [], _ => rfl
  | q :: qs, hq => by
    have ih := sum_phr h qs (fun x hx => hq x (by simp [hx]))
    have h1 := h.md q (hq q (by simp))
    unfold sumV at ih ⊢
    simp only [List.map_cons, List.sum_cons]
    rw [ih, catS, ByteArray.size_append]
    cases e : S.m q with
    | none => rw [e] at h1; cases h1
    | some k => rw [Option.getD_some, (h.mv q k e).2.2]; simp
/-- all rules, the last ones for the whole word -/
def phgS (s : ByteArray) : PhS := phGo (phr s 0 []) (phg0 s.data.toList)
def phgL (s : ByteArray) : List Fac := chainL (phgS s).rs (phgS s).pl
theorem phgS_ok {s : ByteArray} (ho : okW s = true) : PhI s.data.toList (phgS s) (phr s 0 []) := by
  have h1 : ∀ c ∈ s.data.toList, letB c = true := by
    unfold okW at ho
    simp only [Bool.and_eq_true, List.all_eq_true] at ho
    exact ho.2
  have := PhI.go (phOk_of (okW_len2 ho)) (phr s 0 []).length 0 (phg0 s.data.toList) (by omega) (by rw [List.take_zero]; exact phI_init h1)
  rw [List.drop_zero] at this
  exact this
theorem phr_len' {s : ByteArray} (ho : okW s = true) : (phr s 0 []).length ≤ 2000 := by
  have h1 := phr_len s 0 []
  have h2 := okW_len2 ho
  simp at h1; omega
theorem phgS_len {s : ByteArray} (ho : okW s = true) : (phgS s).rs.length ≤ 2004 ∧ (phgS s).pl.length ≤ 2000 := by
  have h1 := phGo_grow (phr s 0 []) (phg0 s.data.toList)
  have h2 := phr_len' ho
  have h3 := ksP_len s.data.toList
  have h4 : (phg0 s.data.toList).rs.length = (ksP s.data.toList).length := by simp [phg0, lettersP]
  have h5 : (phg0 s.data.toList).pl.length = 0 := rfl
  unfold phgS
  omega
theorem phgL_len {s : ByteArray} (ho : okW s = true) : (phgL s).length ≤ 4004 := by
  have := phgS_len ho
  unfold phgL
  rw [chainL_len]; omega
theorem phgL_ok {s : ByteArray} (ho : okW s = true) : WF (phgL s) ∧ ∀ k, k < (phgL s).length → lenV (phgL s) k ≤ 2000 := by
  have I := phgS_ok ho
  have hs := okW_len2 ho
  have hsum := sum_phr I (phr s 0 []) (fun q h => h)
  rw [← I.pv, cat_phr] at hsum
  have hrg : ∀ c ∈ (phgS s).pl, 0 ≤ c ∧ c < ((phgS s).rs.length : Int) := by
    intro c hc
    rw [I.pv] at hc
    obtain ⟨q, hq, rfl⟩ := List.mem_map.1 hc
    have h1 := I.md q hq
    cases e : (phgS s).m q with
    | none => rw [e] at h1; cases h1
    | some k => have := I.mv q k e; rw [Option.getD_some]; omega
  unfold phgL
  generalize phgS s = S at *
  cases e : S.pl with
  | nil => exact ⟨I.wf, fun k hk => (I.bd k hk).2⟩
  | cons b cs =>
    rw [e] at hsum hrg
    have h9 : sumV S.rs (b :: cs) = lenV S.rs b.toNat + sumV S.rs cs := by unfold sumV; simp
    exact chF_ok cs b S.rs I.wf I.bd (hrg b (by simp)) (fun c hc => hrg c (by simp [hc])) (by omega)
theorem phg_one {s : ByteArray} (ho : okW s = true) {k : Int} (h : (phgS s).pl = [k]) : (phgS s).rs.length = 1 ∧ k = 0 := by
  have I := phgS_ok ho
  have h2 : (phr s 0 []).length = 1 := by
    have := congrArg List.length I.pv
    rw [h] at this; simp at this; exact this.symm
  have hc := cat_phr s
  have h3 := (phr_all s).before 0
  have h4 := (phr_all s).pos 0
  have hS : phgS s = phGo (phr s 0 []) (phg0 s.data.toList) := rfl
  obtain ⟨p, hp⟩ := List.length_eq_one_iff.1 h2
  rw [hp] at hc h3 h4 hS
  have h5 : p.size ≤ 1 := by
    rcases h3 p rfl with q | ⟨k, q, hk, _⟩
    · exact q
    · omega
  have h6 := h4 p rfl
  rw [catS, catS, app_empty'] at hc
  subst hc
  obtain ⟨c, rfl⟩ := one_byte (s := p) (by omega)
  have hl : letB c = true := by
    have h7 := ho
    unfold okW at h7
    simp only [Bool.and_eq_true, List.all_eq_true] at h7
    exact h7.2 c (by simp)
  have hks : ksP [c] = [c] := by
    have h8 : (97 : Int) ≤ c.toNat ∧ (c.toNat : Int) ≤ 100 := by simpa [letB] using hl
    have h9 : c.toNat = 97 ∨ c.toNat = 98 ∨ c.toNat = 99 ∨ c.toNat = 100 := by omega
    have h10 : c = 97 ∨ c = 98 ∨ c = 99 ∨ c = 100 := by simp only [← UInt8.toNat_inj]; exact h9
    rcases h10 with rfl | rfl | rfl | rfl <;> decide
  have hm : (phg0 [c]).m ⟨#[c]⟩ = some 0 := by
    show num0 (ksP [c]) _ = _
    rw [hks]
    unfold num0
    rw [if_pos ⟨rfl, by simp [headB]⟩]
    simp [headB]
  have h11 : phgS ⟨#[c]⟩ = ⟨lettersP [c], num0 (ksP [c]), [0]⟩ := by
    rw [hS]
    show phStep (phg0 [c]) ⟨#[c]⟩ = _
    unfold phStep
    rw [hm]; rfl
  rw [h11] at h ⊢
  refine ⟨by simp [lettersP, hks], ?_⟩
  injection h with h
  exact h.symm
/-- where a text stands in a list -/
theorem findS_at (t : ByteArray) : ∀ (ss : List ByteArray) (i : Int), t ∈ ss → ∃ j : Nat, findS t ss i = i + j ∧ ss[j]? = some t
  | [], _, h => by simp at h
  | x :: r, i, h => by
    unfold findS
    by_cases hx : x = t
    · rw [if_pos hx]; exact ⟨0, by simp, by simp [hx]⟩
    · rw [if_neg hx]
      rcases List.mem_cons.1 h with e | h
      · exact absurd e.symm hx
      · obtain ⟨j, h1, h2⟩ := findS_at t r (i + 1) h
        exact ⟨j + 1, by rw [h1]; omega, by simpa using h2⟩
theorem findS_no (t : ByteArray) : ∀ (ss : List ByteArray) (i : Int), t ∉ ss → findS t ss i = -1
  | [], _, _ => rfl
  | x :: r, i, h => by
    unfold findS
    rw [if_neg (fun e => h (by simp [e])), findS_no t r (i + 1) (fun e => h (by simp [e]))]
theorem findS_app (t : ByteArray) (r : List ByteArray) : ∀ (ss : List ByteArray) (i : Int), t ∈ ss → findS t (ss ++ r) i = findS t ss i
  | [], _, h => by simp at h
  | x :: ss, i, h => by
    simp only [List.cons_append, findS]
    by_cases hx : x = t
    · rw [if_pos hx, if_pos hx]
    · rw [if_neg hx, if_neg hx]
      rcases List.mem_cons.1 h with e | h
      · exact absurd e.symm hx
      · exact findS_app t r ss (i + 1) h
end Go.Proofs.Ytikhjoianbndhaa
