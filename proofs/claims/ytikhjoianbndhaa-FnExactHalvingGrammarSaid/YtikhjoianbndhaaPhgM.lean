/-
  The grammar of the phrases of a word: the plain part.
-/
import Derived.Test.YtikhjoianbndhaaPhrMath
import Derived.Test.YtikhjoianbndhaaPlainM
import Derived.Test.YtikhjoianbndhaaTrimV
namespace Go.Proofs.Ytikhjoianbndhaa

/-- the length of a rule's word -/
def lenV (rs : List Fac) (k : Nat) : Int := (full 0 lenF lenG rs).getD k 0
theorem lenV_old (rs : List Fac) (y : Fac) {k : Nat} (h : k < rs.length) : lenV (rs ++ [y]) k = lenV rs k := full_old 0 lenF lenG rs y h
theorem lenV_new (rs : List Fac) (a b : Int) : lenV (rs ++ [⟨⟨#[]⟩, a, b⟩]) rs.length = lenV rs a.toNat + lenV rs b.toNat := by
  unfold lenV
  rw [full_new]
  rfl
/-- rules made of a list of rules, one behind the other -/
def chF : List Int → Int → Nat → List Fac
  | [], _, _ => []
  | c :: cs, b, n => ⟨⟨#[]⟩, b, c⟩ :: chF cs (n : Int) (n + 1)
def chainL (rs : List Fac) : List Int → List Fac
  | [] => rs
  | k :: cs => rs ++ chF cs k rs.length
theorem chF_len : ∀ (cs : List Int) (b : Int) (n : Nat), (chF cs b n).length = cs.length
  | [], _, _ => rfl
  | _ :: cs, b, n => by simp [chF, chF_len cs]
theorem chainL_len (rs : List Fac) (pl : List Int) : (chainL rs pl).length = rs.length + (pl.length - 1) := by
  cases pl with
  | nil => rfl
  | cons k cs => simp [chainL, chF_len]
def sumV (rs : List Fac) (cs : List Int) : Int := (cs.map fun c => lenV rs c.toNat).sum
theorem sumV_old (rs : List Fac) (y : Fac) : ∀ (cs : List Int), (∀ c ∈ cs, 0 ≤ c ∧ c < rs.length) → sumV (rs ++ [y]) cs = sumV rs cs
  | [], _ => rfl
  | c :: cs, h => by
    have h1 := h c (by simp)
    have h2 := sumV_old rs y cs (fun d hd => h d (by simp [hd]))
    unfold sumV at h2 ⊢
    simp only [List.map_cons, List.sum_cons]
    rw [h2, lenV_old rs y (by omega)]
theorem chF_ok {B : Int} : ∀ (cs : List Int) (b : Int) (rs : List Fac), WF rs → (∀ k, k < rs.length → 0 ≤ lenV rs k ∧ lenV rs k ≤ B) → (0 ≤ b ∧ b < rs.length) → (∀ c ∈ cs, 0 ≤ c ∧ c < rs.length) → lenV rs b.toNat + sumV rs cs ≤ B →
    WF (rs ++ chF cs b rs.length) ∧ ∀ k, k < (rs ++ chF cs b rs.length).length → lenV (rs ++ chF cs b rs.length) k ≤ B
  | [], b, rs, hwf, hb, _, _, _ => by
    simp only [chF, List.append_nil]
    exact ⟨hwf, fun k hk => (hb k hk).2⟩
  | c :: cs, b, rs, hwf, hb, h1, h2, h3 => by
    have hc := h2 c (by simp)
    have e : rs ++ chF (c :: cs) b rs.length = (rs ++ [(⟨⟨#[]⟩, b, c⟩ : Fac)]) ++ chF cs ((rs.length : Nat) : Int) (rs ++ [(⟨⟨#[]⟩, b, c⟩ : Fac)]).length := by
      rw [List.append_assoc, List.length_append]; rfl
    have h4 := lenV_new rs b c
    have h5 : ∀ cs : List Int, (∀ c ∈ cs, 0 ≤ c ∧ c < rs.length) → 0 ≤ sumV rs cs := by
      intro cs
      induction cs with
      | nil => intro _; simp [sumV]
      | cons d cs ih =>
        intro h
        have i1 := ih (fun d hd => h d (by simp [hd]))
        have i2 := h d (by simp)
        have i3 := (hb d.toNat (by omega)).1
        unfold sumV at i1 ⊢
        simp only [List.map_cons, List.sum_cons]
        omega
    have h2' : ∀ d ∈ cs, 0 ≤ d ∧ d < (rs.length : Int) := fun d hd => h2 d (by simp [hd])
    have h6 := h5 cs h2'
    have h7 := (hb b.toNat (by omega)).1
    have h8 := (hb c.toNat (by omega)).1
    have h9 : sumV rs (c :: cs) = lenV rs c.toNat + sumV rs cs := by unfold sumV; simp
    rw [h9] at h3
    rw [e]
    refine chF_ok (B := B) cs ((rs.length : Nat) : Int) (rs ++ [⟨⟨#[]⟩, b, c⟩]) (wf_snoc hwf h1 hc) (fun k hk => ?_) (And.intro (by omega) (by simp; omega)) (fun d hd => ?_) ?_
    · by_cases hk' : k < rs.length
      · rw [lenV_old _ _ hk']; exact hb k hk'
      · obtain rfl : k = rs.length := by simp at hk; omega
        rw [h4]; omega
    · have := h2' d hd
      simp; omega
    · rw [Int.toNat_natCast, h4, sumV_old _ _ _ h2']; omega

/-- the numbers of texts -/
abbrev NumF := ByteArray → Option Int
def numPut (m : NumF) (p : ByteArray) (k : Int) : NumF := fun x => if x = p then some k else m x
/-- texts of one letter are told by the letter's place -/
def headB (x : ByteArray) : UInt8 := x.data.toList.headD 0
def num0 (ks : List UInt8) : NumF := fun x => if x.size = 1 ∧ headB x ∈ ks then some ((ks.idxOf (headB x) : Nat) : Int) else none
theorem num0_snoc {ks : List UInt8} {c : UInt8} (h : c ∉ ks) : num0 (ks ++ [c]) = numPut (num0 ks) ⟨#[c]⟩ ks.length := by
  funext x
  unfold numPut
  by_cases hx : x = ⟨#[c]⟩
  · subst hx
    rw [if_pos rfl]
    unfold num0
    rw [if_pos ⟨rfl, by simp [headB]⟩]
    have : headB ⟨#[c]⟩ = c := rfl
    rw [this, List.idxOf_append, if_neg h]
    simp
  · rw [if_neg hx]
    unfold num0
    by_cases h1 : x.size = 1
    · obtain ⟨d, rfl⟩ := one_byte h1
      have hd : headB ⟨#[d]⟩ = d := rfl
      have hdc : d ≠ c := fun e => hx (by rw [e])
      rw [hd]
      by_cases hm : d ∈ ks
      · rw [if_pos ⟨h1, by simp [hm]⟩, if_pos ⟨h1, hm⟩, List.idxOf_append, if_pos hm]
      · rw [if_neg (by simp [hm, hdc]), if_neg (by simp [hm])]
    · rw [if_neg (fun q => h1 q.1), if_neg (fun q => h1 q.1)]
def lastS (p : ByteArray) : ByteArray := p.extract (p.size - 1) p.size
theorem extract_mem {p : ByteArray} {a b : Nat} {c : UInt8} (h : c ∈ (p.extract a b).data.toList) : c ∈ p.data.toList := by
  rw [ByteArray.data_extract, Array.toList_extract, List.extract_eq_take_drop] at h
  exact List.mem_of_mem_drop (List.mem_of_mem_take h)
theorem lastS_one {p : ByteArray} (h : 0 < p.size) : ∃ c, c ∈ p.data.toList ∧ lastS p = ⟨#[c]⟩ := by
  obtain ⟨c, hc⟩ := one_byte (s := lastS p) (by unfold lastS; rw [ByteArray.size_extract]; omega)
  refine ⟨c, ?_, hc⟩
  have : c ∈ (lastS p).data.toList := by rw [hc]; simp
  exact extract_mem this

structure PhS where
  rs : List Fac
  m : NumF
  pl : List Int
def phStep (s : PhS) (p : ByteArray) : PhS := match s.m p with
  | some k => ⟨s.rs, s.m, s.pl ++ [k]⟩
  | none => ⟨s.rs ++ [⟨⟨#[]⟩, (s.m (initS p)).getD 0, (s.m (lastS p)).getD 0⟩], numPut s.m p s.rs.length, s.pl ++ [(s.rs.length : Int)]⟩
def phGo : List ByteArray → PhS → PhS
  | [], s => s
  | p :: r, s => phGo r (phStep s p)
structure PhI (w : List UInt8) (s : PhS) (done : List ByteArray) : Prop where
  wf : WF s.rs
  bd : ∀ k, k < s.rs.length → 0 ≤ lenV s.rs k ∧ lenV s.rs k ≤ 2000
  mv : ∀ x k, s.m x = some k → 0 ≤ k ∧ k < s.rs.length ∧ lenV s.rs k.toNat = x.size
  mc : ∀ c ∈ w, s.m ⟨#[c]⟩ = some (atP w c)
  md : ∀ q ∈ done, (s.m q).isSome = true
  mn : ∀ x k, s.m x = some k → x ∈ done ∨ x.size = 1
  pv : s.pl = done.map fun q => (s.m q).getD 0
theorem PhI.known {w : List UInt8} {s : PhS} {done : List ByteArray} {p : ByteArray} {k : Int} (h : PhI w s done) (hm : s.m p = some k) : PhI w ⟨s.rs, s.m, s.pl ++ [k]⟩ (done ++ [p]) := by
  refine ⟨h.wf, h.bd, h.mv, h.mc, fun q hq => ?_, fun x j hx => ?_, ?_⟩
  · rcases List.mem_append.1 hq with hq | hq
    · exact h.md q hq
    · obtain rfl : q = p := by simpa using hq
      show (s.m q).isSome = true
      rw [hm]; rfl
  · rcases h.mn x j hx with q | q
    · exact .inl (by simp [q])
    · exact .inr q
  · show s.pl ++ [k] = _
    rw [List.map_append, h.pv]
    simp [hm]
/-- what a new phrase is made of -/
theorem PhI.parts {w : List UInt8} {s : PhS} {done : List ByteArray} {p : ByteArray} (h : PhI w s done) (hm : s.m p = none) (h0 : 0 < p.size) (hl : ∀ c ∈ p.data.toList, c ∈ w) (hb : p.size ≤ 1 ∨ initS p ∈ done ∨ p ∈ done) :
    1 < p.size ∧ initS p ∈ done ∧ ∃ a b, s.m (initS p) = some a ∧ s.m (lastS p) = some b := by
  have h1 : 1 < p.size := by
    rcases Nat.lt_or_ge 1 p.size with q | q
    · exact q
    · obtain ⟨c, rfl⟩ := one_byte (s := p) (by omega)
      have := h.mc c (hl c (by simp))
      rw [hm] at this; cases this
  have h2 : initS p ∈ done := by
    rcases hb with q | q | q
    · omega
    · exact q
    · have := h.md p q
      rw [hm] at this; cases this
  obtain ⟨c, hc, hce⟩ := lastS_one h0
  have h3 := h.md _ h2
  refine ⟨h1, h2, ((s.m (initS p)).getD 0), atP w c, ?_, by rw [hce]; exact h.mc c (hl c hc)⟩
  cases e : s.m (initS p) with
  | none => rw [e] at h3; cases h3
  | some a => rfl
theorem PhI.fresh {w : List UInt8} {s : PhS} {done : List ByteArray} {p : ByteArray} (h : PhI w s done) (hm : s.m p = none) (h0 : 0 < p.size) (h2000 : p.size ≤ 2000) (hl : ∀ c ∈ p.data.toList, c ∈ w) (hb : p.size ≤ 1 ∨ initS p ∈ done ∨ p ∈ done) :
    PhI w ⟨s.rs ++ [⟨⟨#[]⟩, (s.m (initS p)).getD 0, (s.m (lastS p)).getD 0⟩], numPut s.m p s.rs.length, s.pl ++ [(s.rs.length : Int)]⟩ (done ++ [p]) := by
  obtain ⟨h1, h2, a, b, ha, hbb⟩ := h.parts hm h0 hl hb
  have va := h.mv _ _ ha
  have vb := h.mv _ _ hbb
  have la : (initS p).size = p.size - 1 := by unfold initS; rw [ByteArray.size_extract]; omega
  have lb : (lastS p).size = 1 := by unfold lastS; rw [ByteArray.size_extract]; omega
  have hne : ∀ x, (s.m x).isSome = true → x ≠ p := fun x hx e => by subst e; rw [hm] at hx; cases hx
  have hold : ∀ x, (s.m x).isSome = true → numPut s.m p s.rs.length x = s.m x := fun x hx => by unfold numPut; rw [if_neg (hne x hx)]
  rw [ha, hbb]
  simp only [Option.getD_some]
  have hnew := lenV_new s.rs a b
  rw [va.2.2, vb.2.2] at hnew
  refine ⟨wf_snoc h.wf ⟨va.1, va.2.1⟩ ⟨vb.1, vb.2.1⟩, fun k hk => ?_, fun x k hx => ?_, fun c hc => ?_, fun q hq => ?_, fun x k hx => ?_, ?_⟩
  · by_cases hk' : k < s.rs.length
    · show 0 ≤ lenV (s.rs ++ _) k ∧ lenV (s.rs ++ _) k ≤ 2000
      rw [lenV_old _ _ hk']; exact h.bd k hk'
    · obtain rfl : k = s.rs.length := by simp at hk; omega
      show 0 ≤ lenV (s.rs ++ _) s.rs.length ∧ lenV (s.rs ++ _) s.rs.length ≤ 2000
      rw [hnew]; omega
  · simp only [numPut] at hx
    split at hx
    · rename_i e
      obtain rfl : (s.rs.length : Int) = k := by simpa using hx
      subst e
      refine ⟨by omega, by simp; omega, ?_⟩
      show lenV (s.rs ++ _) _ = _
      rw [Int.toNat_natCast, hnew]; omega
    · have := h.mv x k hx
      refine ⟨this.1, by simp; omega, ?_⟩
      show lenV (s.rs ++ _) _ = _
      rw [lenV_old _ _ (by omega)]; exact this.2.2
  · have := h.mc c hc
    show numPut s.m p s.rs.length _ = _
    rw [hold _ (by rw [this]; rfl), this]
  · show (numPut s.m p s.rs.length q).isSome = true
    rcases List.mem_append.1 hq with hq | hq
    · rw [hold _ (h.md q hq)]; exact h.md q hq
    · obtain rfl : q = p := by simpa using hq
      simp [numPut]
  · simp only [numPut] at hx
    split at hx
    · rename_i e
      subst e
      exact .inl (by simp)
    · rcases h.mn x k hx with q | q
      · exact .inl (by simp [q])
      · exact .inr q
  · show s.pl ++ [(s.rs.length : Int)] = _
    rw [List.map_append, h.pv]
    congr 1
    · refine List.map_congr_left fun q hq => ?_
      show _ = (numPut s.m p s.rs.length q).getD 0
      rw [hold _ (h.md q hq)]
    · simp [numPut]
theorem PhI.step {w : List UInt8} {s : PhS} {done : List ByteArray} {p : ByteArray} (h : PhI w s done) (h0 : 0 < p.size) (h2000 : p.size ≤ 2000) (hl : ∀ c ∈ p.data.toList, c ∈ w) (hb : p.size ≤ 1 ∨ initS p ∈ done ∨ p ∈ done) : PhI w (phStep s p) (done ++ [p]) := by
  unfold phStep
  split
  · rename_i k hk
    exact h.known hk
  · rename_i hk
    exact h.fresh hk h0 h2000 hl hb
/-- what is asked of a list of phrases -/
def PhOk (w : List UInt8) (ps : List ByteArray) : Prop := ∀ i p, ps[i]? = some p → 0 < p.size ∧ p.size ≤ 2000 ∧ (∀ c ∈ p.data.toList, c ∈ w) ∧ (p.size ≤ 1 ∨ initS p ∈ ps.take i ∨ p ∈ ps.take i)
theorem PhI.go {w : List UInt8} {ps : List ByteArray} (hok : PhOk w ps) : ∀ (n i : Nat) (s : PhS), i + n = ps.length → PhI w s (ps.take i) → PhI w (phGo (ps.drop i) s) ps
  | 0, i, s, hi, h => by
    rw [List.drop_of_length_le (by omega)]
    rw [List.take_of_length_le (by omega)] at h
    exact h
  | n + 1, i, s, hi, h => by
    have hp : ps[i]? = some (ps[i]'(by omega)) := List.getElem?_eq_getElem _
    obtain ⟨h0, h1, h2, h3⟩ := hok i _ hp
    rw [drop_cons hp]
    refine PhI.go hok n (i + 1) _ (by omega) ?_
    rw [List.take_succ_eq_append_getElem (by omega)]
    exact h.step h0 h1 h2 h3
theorem phGo_grow : ∀ (ps : List ByteArray) (s : PhS), s.rs.length ≤ (phGo ps s).rs.length ∧ (phGo ps s).pl.length = s.pl.length + ps.length ∧ (phGo ps s).rs.length ≤ s.rs.length + ps.length
  | [], s => by simp [phGo]
  | p :: r, s => by
    have := phGo_grow r (phStep s p)
    have h1 : s.rs.length ≤ (phStep s p).rs.length ∧ (phStep s p).pl.length = s.pl.length + 1 ∧ (phStep s p).rs.length ≤ s.rs.length + 1 := by
      unfold phStep; split <;> simp
    simp only [phGo, List.length_cons]; omega
end Go.Proofs.Ytikhjoianbndhaa
