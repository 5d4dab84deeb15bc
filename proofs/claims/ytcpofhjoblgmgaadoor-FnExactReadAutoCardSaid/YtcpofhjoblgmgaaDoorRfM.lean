
/-
  Factors that are read: the text of valid factors gives them again, by the program's way and by the reference's.
-/
import Derived.Test.YtcpofhjoblgmgaaDoorFtx
import Derived.Lib.SplitLaws
import Derived.Lib.ParseIntB
import Derived.Lib.IndexMore
namespace Go.Proofs.YtcpofhjoblgmgaaDoor
open Go.RowKit

/-- a text cut at each byte c -/
def spl (c : UInt8) : List UInt8 → List (List UInt8)
  | [] => [[]]
  | b :: r => if b = c then [] :: spl c r else
    match spl c r with
    | [] => [[b]]
    | h :: t => (b :: h) :: t
theorem spl_ne (c : UInt8) : ∀ l, spl c l ≠ []
  | [] => by simp [spl]
  | b :: r => by
    rw [spl]
    split
    · simp
    · split <;> simp
theorem spl_none {c : UInt8} : ∀ {l : List UInt8}, c ∉ l → spl c l = [l]
  | [], _ => rfl
  | b :: r, h => by
    rw [spl, if_neg (fun e => h (by rw [e]; exact List.mem_cons_self)), spl_none (l := r) (fun e => h (List.mem_cons_of_mem _ e))]
theorem spl_cut {c : UInt8} (r : List UInt8) : ∀ {l : List UInt8}, c ∉ l → spl c (l ++ c :: r) = l :: spl c r
  | [], _ => by rw [List.nil_append, spl, if_pos rfl]
  | b :: l, h => by
    rw [List.cons_append, spl, if_neg (fun e => h (by rw [e]; exact List.mem_cons_self)), spl_cut r (l := l) (fun e => h (List.mem_cons_of_mem _ e))]
theorem index_none1 {c : UInt8} : ∀ {l : List UInt8}, c ∉ l → Lib.index l [c] = -1
  | [], _ => rfl
  | b :: l, h => by
    have hb : b ≠ c := fun e => h (by rw [e]; exact List.mem_cons_self)
    have hp : ([c] : List UInt8).isPrefixOf (b :: l) = false := by simp [List.isPrefixOf, Ne.symm hb]
    rw [Lib.index, hp, index_none1 (l := l) (fun e => h (List.mem_cons_of_mem _ e))]
    simp
theorem index_hit1 {c : UInt8} (r : List UInt8) : ∀ {l : List UInt8}, c ∉ l → Lib.index (l ++ c :: r) [c] = l.length
  | [], _ => by rw [List.nil_append, Lib.index]; simp [List.isPrefixOf]
  | b :: l, h => by
    have hb : b ≠ c := fun e => h (by rw [e]; exact List.mem_cons_self)
    have hp : ([c] : List UInt8).isPrefixOf (b :: (l ++ c :: r)) = false := by simp [List.isPrefixOf, Ne.symm hb]
    rw [List.cons_append, Lib.index, hp, index_hit1 r (l := l) (fun e => h (List.mem_cons_of_mem _ e))]
    have : ((l.length : Int) == -1) = false := by rw [beq_eq_false_iff_ne]; omega
    simp [this]
theorem mem_split1 {c : UInt8} : ∀ {l : List UInt8}, c ∈ l → ∃ a b, l = a ++ c :: b ∧ c ∉ a
  | b :: l, h => by
    by_cases e : b = c
    · exact ⟨[], l, by rw [e]; rfl, by simp⟩
    · obtain ⟨a, d, e1, e2⟩ := mem_split1 (l := l) (by rcases List.mem_cons.1 h with h | h; exact absurd h.symm e; exact h)
      exact ⟨b :: a, d, by rw [e1]; rfl, by simp [e2, Ne.symm e]⟩
theorem split_spl (c : UInt8) : ∀ (n : Nat) (s : List UInt8), s.length ≤ n → Lib.splitK [c] 0 (Lib.count s [c]) s = spl c s := by
  intro n
  induction n with
  | zero =>
    intro s hn
    have : s = [] := List.eq_nil_of_length_eq_zero (by omega)
    subst this
    rw [Lib.count_one]; rfl
  | succ n ih =>
    intro s hn
    by_cases h : c ∈ s
    · obtain ⟨a, b, rfl, ha⟩ := mem_split1 h
      have hc : Lib.count (a ++ c :: b) [c] = Lib.count b [c] + 1 := by
        rw [Lib.count_one, Lib.count_one, List.count_append, List.count_cons_self, List.count_eq_zero_of_not_mem ha]; omega
      have hi := index_hit1 b ha
      rw [hc, Lib.splitK, hi, if_neg (by rw [beq_iff_eq]; omega), spl_cut b ha]
      have e1 : ((a.length : Int)).toNat = a.length := by omega
      rw [e1, Nat.add_zero, List.take_left' rfl]
      have e2 : (a ++ c :: b).drop (a.length + ([c] : List UInt8).length) = b := by
        rw [← List.drop_drop, List.drop_left' rfl]; rfl
      rw [e2]
      simp only [List.length_append, List.length_cons] at hn
      rw [ih b (by omega)]
    · rw [Lib.count_one, List.count_eq_zero_of_not_mem h, spl_none h]; rfl
theorem cut_hit {a b : List UInt8} (h : (32 : UInt8) ∉ a) : Lib.cut (a ++ 32 :: b) [32] = (a, b, true) := by
  have hi := index_hit1 b h
  unfold Lib.cut
  rw [hi, if_pos (by omega)]
  have e1 : ((a.length : Int)).toNat = a.length := by omega
  have e2 : (a ++ 32 :: b).drop (a.length + ([32] : List UInt8).length) = b := by rw [← List.drop_drop, List.drop_left' rfl]; rfl
  rw [e1, List.take_left' rfl, e2]
theorem cut_miss {a : List UInt8} (h : (32 : UInt8) ∉ a) : Lib.cut a [32] = (a, [], false) := by
  unfold Lib.cut
  rw [index_none1 h, if_neg (by omega)]
/-- a number that is read, in the program -/
def pI (l : List UInt8) : Int := match Lib.parseIntB 64 l with | .ok v => v | .range => Lib.intSat 64 l | _ => 0
/-- the same in the reference -/
def nuS : Int → List UInt8 → Int
  | acc, [] => acc
  | acc, c :: r => if c.toNat < 48 ∨ 57 < c.toNat then -1 else nuS (acc * 10 + ((c.toNat : Int) - 48)) r
def pS (l : List UInt8) : Int := if l.length < 1 ∨ 16 < l.length then -1 else nuS 0 l
/-- a line that is read -/
def lineI (l : List UInt8) : Fac := if (Lib.cut l [32]).2.2 then ⟨⟨#[]⟩, pI (Lib.cut l [32]).1, pI (Lib.cut l [32]).2.1⟩ else ⟨⟨l.toArray⟩, 0, 0⟩
def lineS (l : List UInt8) : Fac := if (spl 32 l).length = 2 then ⟨⟨#[]⟩, pS ((spl 32 l).getD 0 []), pS ((spl 32 l).getD 1 [])⟩ else ⟨⟨l.toArray⟩, 0, 0⟩
def readI (s : List UInt8) : List Fac := (spl 10 s).dropLast.map lineI
def readS (s : List UInt8) : List Fac := (spl 10 s).dropLast.map lineS
theorem dec_dig : ∀ (n : Nat), ∀ c ∈ Lib.decDigits n, 48 ≤ c.toNat ∧ c.toNat ≤ 57 := by
  intro n
  induction n using Nat.strongRecOn with
  | ind n ih =>
    intro c hc
    rw [Lib.decDigits] at hc
    split at hc
    · rename_i h
      simp only [List.mem_singleton] at hc
      subst hc
      have : (UInt8.ofNat (48 + n)).toNat = 48 + n := by rw [UInt8.toNat_ofNat']; omega
      omega
    · rename_i h
      rcases List.mem_append.1 hc with hc | hc
      · exact ih (n / 10) (by omega) c hc
      · simp only [List.mem_singleton] at hc
        subst hc
        have : (UInt8.ofNat (48 + n % 10)).toNat = 48 + n % 10 := by rw [UInt8.toNat_ofNat']; omega
        omega
theorem dec_ne (n : Nat) : Lib.decDigits n ≠ [] := by
  rw [Lib.decDigits]
  split <;> simp
theorem dec_not {n : Nat} {c : UInt8} (h : c.toNat < 48) : c ∉ Lib.decDigits n := fun hc => by have := dec_dig n c hc; omega
theorem uint_app (M : Nat) : ∀ (l r : List UInt8) (acc u : Nat), Lib.parseUintM M acc l = .ok u → Lib.parseUintM M acc (l ++ r) = Lib.parseUintM M u r
  | [], r, acc, u, h => by rw [Lib.parseUintM] at h; injection h with h; rw [h]; rfl
  | c :: l, r, acc, u, h => by
    rw [Lib.parseUintM] at h
    rw [List.cons_append, Lib.parseUintM]
    split at h
    · rename_i h1
      split at h
      · cases h
      · rename_i h2
        split at h
        · cases h
        · rename_i h3
          rw [if_pos h1, if_neg h2, if_neg h3]
          exact uint_app M l r _ u h
    · cases h
theorem dec_uint : ∀ (n : Nat), n ≤ 1000000000000000 → Lib.parseUintM (2 ^ 64 - 1) 0 (Lib.decDigits n) = .ok n := by
  intro n
  induction n using Nat.strongRecOn with
  | ind n ih =>
    intro hn
    have one : ∀ (a k : Nat), k < 10 → a * 10 + k ≤ 1000000000000000 → Lib.parseUintM (2 ^ 64 - 1) a [UInt8.ofNat (48 + k)] = .ok (a * 10 + k) := fun a k hk ha => by
      have : (UInt8.ofNat (48 + k)).toNat = 48 + k := by rw [UInt8.toNat_ofNat']; omega
      rw [Lib.parseUintM, this, if_pos (by omega), if_neg (by omega), if_neg (by omega), Lib.parseUintM]
      congr 1; omega
    rw [Lib.decDigits]
    split
    · rename_i h
      have := one 0 n h (by omega)
      rw [this]; congr 1; omega
    · rename_i h
      rw [uint_app _ _ _ _ _ (ih (n / 10) (by omega) (by omega)), one (n / 10) (n % 10) (by omega) (by omega)]
      congr 1; omega
theorem pI_dec {n : Nat} (h : n ≤ 1000000000000000) : pI (Lib.decDigits n) = n := by
  have hu := dec_uint n h
  have hd := dec_dig n
  unfold pI Lib.parseIntB Lib.parseUintB
  rcases hl : Lib.decDigits n with _ | ⟨c, r⟩
  · exact absurd hl (dec_ne n)
  · rw [hl] at hu hd
    have := hd c List.mem_cons_self
    simp only
    rw [if_neg (show ¬ (c.toNat = 43 ∨ c.toNat = 45) by omega), if_neg (show ¬ (c :: r = []) by simp), hu]
    simp only
    rw [if_neg (by omega), if_neg (by omega), if_neg (by omega)]
theorem nuS_app : ∀ (l r : List UInt8) (acc : Int), (∀ c ∈ l, 48 ≤ c.toNat ∧ c.toNat ≤ 57) → nuS acc (l ++ r) = nuS (nuS acc l) r
  | [], r, acc, _ => rfl
  | c :: l, r, acc, h => by
    have := h c List.mem_cons_self
    rw [List.cons_append, nuS, if_neg (by omega), nuS, if_neg (by omega), nuS_app l r _ (fun x hx => h x (List.mem_cons_of_mem _ hx))]
theorem dec_nuS : ∀ (n : Nat), nuS 0 (Lib.decDigits n) = n := by
  intro n
  induction n using Nat.strongRecOn with
  | ind n ih =>
    have one : ∀ (a : Int) (k : Nat), k < 10 → nuS a [UInt8.ofNat (48 + k)] = a * 10 + k := fun a k hk => by
      have : (UInt8.ofNat (48 + k)).toNat = 48 + k := by rw [UInt8.toNat_ofNat']; omega
      rw [nuS, this, if_neg (by omega), nuS]; omega
    rw [Lib.decDigits]
    split
    · rename_i h
      rw [one 0 n h]; omega
    · rename_i h
      rw [nuS_app _ _ _ (dec_dig _), ih (n / 10) (by omega), one _ _ (by omega)]; omega
theorem dec_len : ∀ (k n : Nat), n < 10 ^ (k + 1) → (Lib.decDigits n).length ≤ k + 1
  | 0, n, h => by rw [Lib.decDigits, dif_pos (by omega)]; simp
  | k + 1, n, h => by
    rw [Lib.decDigits]
    split
    · simp
    · have := dec_len k (n / 10) (by rw [Nat.pow_succ] at h; omega)
      simp only [List.length_append, List.length_singleton]; omega
theorem pS_dec {n : Nat} (h : n ≤ 1000000000000000) : pS (Lib.decDigits n) = n := by
  have h1 := dec_len 15 n (by omega)
  have h2 := List.length_pos_iff.2 (dec_ne n)
  unfold pS
  rw [if_neg (by omega), dec_nuS]
/-- a line without its end -/
def bodyL (f : Fac) : List UInt8 := if f.l.size = 0 then Lib.decDigits f.a.toNat ++ 32 :: Lib.decDigits f.b.toNat else f.l.data.toList
theorem lineT_body (f : Fac) : (lineT f).data.toList = bodyL f ++ [10] := by
  unfold lineT bodyL
  split <;> simp [decS, spB, nlB]
theorem textT_list : ∀ (fs : List Fac) (out : ByteArray), (textT fs out).data.toList = out.data.toList ++ fs.flatMap fun f => bodyL f ++ [10]
  | [], out => by simp [textT]
  | f :: r, out => by
    rw [textT, textT_list r, ByteArray.data_append, Array.toList_append, lineT_body, List.flatMap_cons, List.append_assoc]
/-- what is asked of a factor, its rule in full -/
def FacIn (f : Fac) : Prop := (f.l = ⟨#[]⟩ ∧ 0 ≤ f.a ∧ f.a ≤ 1000000000000000 ∧ 0 ≤ f.b ∧ f.b ≤ 1000000000000000) ∨ (∃ c, letB c = true ∧ f.l = ⟨#[c]⟩ ∧ f.a = 0 ∧ f.b = 0)
theorem letT_one1 {s : ByteArray} (h : letT s = true) : ∃ c, letB c = true ∧ s = ⟨#[c]⟩ := by
  by_cases h1 : s.size = 1
  · obtain ⟨c, rfl⟩ := one_byte h1
    exact ⟨c, h, rfl⟩
  · rw [letT_not h1] at h; cases h
theorem letB_num1 {c : UInt8} (h : letB c = true) : 97 ≤ (c.toNat : Int) ∧ (c.toNat : Int) ≤ 100 := by simpa [letB] using h
theorem ba_nil {b : ByteArray} (h : b.size = 0) : b = ⟨#[]⟩ := by
  obtain ⟨⟨l⟩⟩ := b
  cases l with
  | nil => rfl
  | cons c t => simp [ByteArray.size] at h
theorem facLen_in : ∀ (fs : List Fac) (t N : Int), 0 ≤ t → t ≤ 1000000000000000 → facLen fs t = some N → ∀ f ∈ fs, FacIn f
  | [], _, _, _, _, _, f, hf => by simp at hf
  | g :: r, t, N, h0, h1, h, f, hf => by
    unfold facLen at h
    obtain ⟨m, hm, h2⟩ := Option.bind_eq_some_iff.1 h
    unfold facStep at hm
    split at hm
    · rename_i hl
      split at hm
      · rename_i hc
        injection hm with hm
        rcases List.mem_cons.1 hf with rfl | hf
        · exact .inl ⟨ba_nil hl, by omega, by omega, by omega, by omega⟩
        · exact facLen_in r m N (by omega) (by omega) h2 f hf
      · cases hm
    · rename_i hl
      split at hm
      · rename_i hc
        injection hm with hm
        rcases List.mem_cons.1 hf with rfl | hf
        · obtain ⟨c, hcc, hl2⟩ := letT_one1 hc.1
          exact .inr ⟨c, hcc, hl2, hc.2.1, hc.2.2.1⟩
        · exact facLen_in r m N (by omega) (by omega) h2 f hf
      · cases hm
theorem facTotal_in {fs : List Fac} {N : Int} (h : facTotal fs = some N) : ∀ f ∈ fs, FacIn f := by
  unfold facTotal at h
  split at h
  · cases h
  · exact facLen_in fs 0 N (by omega) (by omega) h
theorem body_in {f : Fac} (h : FacIn f) : (10 : UInt8) ∉ bodyL f ∧ lineI (bodyL f) = f ∧ lineS (bodyL f) = f := by
  obtain ⟨l, a, b⟩ := f
  rcases h with ⟨hl, a0, a1, b0, b1⟩ | ⟨c, hc, hl, ha, hb⟩
  · have hl' : l = ⟨#[]⟩ := hl
    subst hl'
    have a0 : 0 ≤ a := a0
    have a1 : a ≤ 1000000000000000 := a1
    have b0 : 0 ≤ b := b0
    have b1 : b ≤ 1000000000000000 := b1
    have ea : bodyL ⟨⟨#[]⟩, a, b⟩ = Lib.decDigits a.toNat ++ 32 :: Lib.decDigits b.toNat := rfl
    have n1 : (32 : UInt8) ∉ Lib.decDigits a.toNat := dec_not (by decide)
    have n2 : (32 : UInt8) ∉ Lib.decDigits b.toNat := dec_not (by decide)
    rw [ea]
    refine ⟨?_, ?_, ?_⟩
    · simp only [List.mem_append, List.mem_cons, not_or]
      exact ⟨dec_not (by decide), by decide, dec_not (by decide)⟩
    · unfold lineI
      rw [cut_hit n1]
      simp only [if_true]
      rw [pI_dec (by omega), pI_dec (by omega)]
      congr 1 <;> (show ((Int.toNat _ : Nat) : Int) = _) <;> first | exact Int.toNat_of_nonneg a0 | exact Int.toNat_of_nonneg b0
    · unfold lineS
      rw [spl_cut _ n1, spl_none n2]
      show (Fac.mk ⟨#[]⟩ (pS (Lib.decDigits a.toNat)) (pS (Lib.decDigits b.toNat))) = _
      rw [pS_dec (by omega), pS_dec (by omega)]
      congr 1 <;> (show ((Int.toNat _ : Nat) : Int) = _) <;> first | exact Int.toNat_of_nonneg a0 | exact Int.toNat_of_nonneg b0
  · have hl' : l = ⟨#[c]⟩ := hl
    have ha' : a = 0 := ha
    have hb' : b = 0 := hb
    subst hl' ha' hb'
    have ea : bodyL ⟨⟨#[c]⟩, 0, 0⟩ = [c] := rfl
    have hn := letB_num1 hc
    have n1 : (32 : UInt8) ∉ [c] := by simp only [List.mem_singleton]; intro e; rw [← e] at hn; exact absurd hn.1 (by decide)
    rw [ea]
    refine ⟨?_, ?_, ?_⟩
    · simp only [List.mem_singleton]; intro e; rw [← e] at hn; exact absurd hn.1 (by decide)
    · unfold lineI; rw [cut_miss n1]; rfl
    · unfold lineS; rw [spl_none n1]; rfl
theorem spl_lines : ∀ (fs : List Fac), (∀ f ∈ fs, FacIn f) → spl 10 (fs.flatMap fun f => bodyL f ++ [10]) = fs.map bodyL ++ [[]]
  | [], _ => rfl
  | f :: r, h => by
    rw [List.flatMap_cons, List.append_assoc, List.singleton_append, spl_cut _ (body_in (h f List.mem_cons_self)).1, spl_lines r (fun x hx => h x (List.mem_cons_of_mem _ hx))]
    rfl
theorem read_text {fs : List Fac} {N : Int} (h : facTotal fs = some N) : readI (textT fs ⟨#[]⟩).data.toList = fs ∧ readS (textT fs ⟨#[]⟩).data.toList = fs := by
  have hin := facTotal_in h
  have e : (textT fs ⟨#[]⟩).data.toList = fs.flatMap fun f => bodyL f ++ [10] := by rw [textT_list]; rfl
  unfold readI readS
  rw [e, spl_lines fs hin, List.dropLast_concat, List.map_map, List.map_map]
  constructor
  · conv => rhs; rw [← List.map_id fs]
    exact List.map_congr_left fun f hf => (body_in (hin f hf)).2.1
  · conv => rhs; rw [← List.map_id fs]
    exact List.map_congr_left fun f hf => (body_in (hin f hf)).2.2
/-- what ReadFactors answers -/
def rdL (rd : List UInt8 → List Fac) (s : ByteArray) : List Fac × Int :=
  if 4000 < s.size then ([], 2) else if (facTotal (rd s.data.toList)).isSome = true ∧ textT (rd s.data.toList) ⟨#[]⟩ = s then (rd s.data.toList, 0) else ([], 5)
theorem rd_same (s : ByteArray) : rdL readI s = rdL readS s := by
  unfold rdL
  by_cases h : 4000 < s.size
  · rw [if_pos h, if_pos h]
  rw [if_neg h, if_neg h]
  by_cases h1 : (facTotal (readI s.data.toList)).isSome = true ∧ textT (readI s.data.toList) ⟨#[]⟩ = s
  · obtain ⟨N, hN⟩ := Option.isSome_iff_exists.1 h1.1
    have e := (read_text hN).2
    rw [h1.2] at e
    rw [e]
  · rw [if_neg h1]
    by_cases h2 : (facTotal (readS s.data.toList)).isSome = true ∧ textT (readS s.data.toList) ⟨#[]⟩ = s
    · exfalso
      obtain ⟨N, hN⟩ := Option.isSome_iff_exists.1 h2.1
      have e := (read_text hN).1
      rw [h2.2] at e
      exact h1 (by rw [e]; exact h2)
    · rw [if_neg h2]
end Go.Proofs.YtcpofhjoblgmgaaDoor
