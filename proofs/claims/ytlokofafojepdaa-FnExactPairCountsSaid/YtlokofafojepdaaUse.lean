/-
  How often each rule is met: the plain part.
-/
import Derived.Test.YtlokofafojepdaaFoldL
import Derived.Test.YtlokofafojepdaaGramL
namespace Go.Proofs.Ytlokofafojepdaa

def sumTo (f : Nat → Int) : Nat → Int
  | 0 => 0
  | i + 1 => sumTo f i + f i
theorem sumTo_congr {f g : Nat → Int} : ∀ {i : Nat}, (∀ j, j < i → f j = g j) → sumTo f i = sumTo g i
  | 0, _ => rfl
  | i + 1, h => by
    show sumTo f i + f i = sumTo g i + g i
    rw [sumTo_congr (fun j hj => h j (by omega)), h i (by omega)]
theorem sumTo_upd {f g : Nat → Int} (a : Nat) : ∀ {i : Nat}, a < i → (∀ j, j < i → j ≠ a → f j = g j) → sumTo f i = sumTo g i + (f a - g a)
  | 0, h, _ => absurd h (by omega)
  | i + 1, h, hj => by
    show sumTo f i + f i = sumTo g i + g i + (f a - g a)
    by_cases he : a = i
    · subst he
      rw [sumTo_congr (i := a) (fun j h' => hj j (by omega) (by omega))]
      omega
    · rw [sumTo_upd a (i := i) (by omega) (fun j h1 h2 => hj j (by omega) h2), hj i (by omega) (fun e => he e.symm)]
      omega
theorem sumTo_diff {f g : Nat → Int} {i : Nat} : ∀ {n : Nat}, i ≤ n → (∀ j, i ≤ j → j < n → f j = g j) → sumTo f n - sumTo f i = sumTo g n - sumTo g i
  | 0, h, _ => by
    obtain rfl : i = 0 := by omega
    omega
  | n + 1, h, hj => by
    by_cases he : i = n + 1
    · subst he; omega
    · have := sumTo_diff (f := f) (g := g) (i := i) (n := n) (by omega) (fun j h1 h2 => hj j h1 (by omega))
      have h2 := hj n (by omega) (by omega)
      show sumTo f n + f n - sumTo f i = sumTo g n + g n - sumTo g i
      omega
theorem sumTo_add (f g : Nat → Int) : ∀ i, sumTo (fun j => f j + g j) i = sumTo f i + sumTo g i
  | 0 => rfl
  | i + 1 => by
    show sumTo (fun j => f j + g j) i + (f i + g i) = sumTo f i + f i + (sumTo g i + g i)
    rw [sumTo_add f g i]; omega
theorem sumTo_zero : ∀ {f : Nat → Int} {i : Nat}, (∀ j, j < i → f j = 0) → sumTo f i = 0
  | f, 0, _ => rfl
  | f, i + 1, h => by
    show sumTo f i + f i = 0
    rw [sumTo_zero (fun j hj => h j (by omega)), h i (by omega)]; rfl
theorem sumTo_mem {f : Nat → Int} : ∀ {i : Nat}, (∀ j, j < i → 0 ≤ f j) → 0 ≤ sumTo f i ∧ ∀ j, j < i → f j ≤ sumTo f i
  | 0, _ => ⟨by simp [sumTo], fun j hj => absurd hj (by omega)⟩
  | i + 1, h => by
    have ih := sumTo_mem (f := f) (i := i) (fun j hj => h j (by omega))
    have h1 := h i (by omega)
    refine ⟨by show 0 ≤ sumTo f i + f i; omega, fun j hj => ?_⟩
    show f j ≤ sumTo f i + f i
    by_cases he : j = i
    · subst he; omega
    · have := ih.2 j (by omega); omega

def usePair (us : List Int) (a b i : Nat) : List Int :=
  (us.set a (us.getD a 0 + us.getD i 0)).set b ((us.set a (us.getD a 0 + us.getD i 0)).getD b 0 + us.getD i 0)
def useStep (rs : List Fac) (us : List Int) (i : Nat) : List Int := if (rs.getD i default).l.size = 0 then usePair us (rs.getD i default).a.toNat (rs.getD i default).b.toNat i else us
def useGo (rs : List Fac) : Nat → List Int → List Int
  | 0, us => us
  | i + 1, us => useGo rs i (useStep rs us i)
def use0 (n : Nat) : List Int := (List.replicate n 0).set (n - 1) 1
/-- how often each rule is met -/
def usesOf (rs : List Fac) : List Int := useGo rs rs.length (use0 rs.length)

theorem getD_set (us : List Int) (a j : Nat) (v : Int) (ha : a < us.length) : (us.set a v).getD j 0 = if j = a then v else us.getD j 0 := by
  rw [List.getD_eq_getElem?_getD, List.getD_eq_getElem?_getD, List.getElem?_set]
  by_cases h : a = j
  · subst h; simp [ha]
  · rw [if_neg h, if_neg (fun e => h e.symm)]
theorem use0_at (n j : Nat) (hn : 0 < n) : (use0 n).getD j 0 = if j = n - 1 then 1 else 0 := by
  unfold use0
  rw [getD_set _ _ _ _ (by simp; omega)]
  congr 1
  rw [List.getD_eq_getElem?_getD, List.getElem?_replicate]
  split <;> rfl
/-- a letter's part, a pair's part -/
def useL (rs : List Fac) (us : List Int) (j : Nat) : Int := if (rs.getD j default).l.size = 0 then 0 else us.getD j 0
def useP (rs : List Fac) (us : List Int) (j : Nat) : Int := if (rs.getD j default).l.size = 0 then us.getD j 0 else 0
theorem ite0_mul (c : Prop) [Decidable c] (x y : Int) : (if c then x else 0) * y = if c then x * y else 0 := by split <;> simp
structure UInv (rs : List Fac) (ls : List Int) (m : Nat) (us : List Int) : Prop where
  len : us.length = rs.length
  le : m ≤ rs.length
  nn : ∀ j, 0 ≤ us.getD j 0
  bd : ∀ j, us.getD j 0 ≤ 1000000000000000
  w : sumTo (fun j => us.getD j 0 * ls.getD j 0) m + (sumTo (useL rs us) rs.length - sumTo (useL rs us) m) = lastI ls
  c : sumTo (fun j => us.getD j 0) m + (sumTo (useL rs us) rs.length - sumTo (useL rs us) m) = 1 + (sumTo (useP rs us) rs.length - sumTo (useP rs us) m)
theorem fac_getD {rs : List Fac} {i : Nat} {r : Fac} (h : rs[i]? = some r) : rs.getD i default = r := by rw [List.getD_eq_getElem?_getD, h]; rfl
theorem usePair_len (us : List Int) (a b i : Nat) : (usePair us a b i).length = us.length := by unfold usePair; simp
theorem usePair_at {us : List Int} {a b i : Nat} (ha : a < us.length) (hb : b < us.length) (j : Nat) :
    (usePair us a b i).getD j 0 = us.getD j 0 + (if j = a then us.getD i 0 else 0) + (if j = b then us.getD i 0 else 0) := by
  unfold usePair
  rw [getD_set _ _ _ _ (by simpa using hb)]
  have q := fun j => getD_set us a j (us.getD a 0 + us.getD i 0) ha
  rw [q, q]
  by_cases h1 : j = b
  · by_cases h2 : j = a
    · rw [if_pos h1, if_pos h1, if_pos h2, ← h1, if_pos h2, h2]
    · rw [if_pos h1, if_pos h1, if_neg h2, ← h1, if_neg h2]; omega
  · by_cases h2 : j = a
    · rw [if_neg h1, if_neg h1, if_pos h2, if_pos h2, h2]; omega
    · rw [if_neg h1, if_neg h1, if_neg h2, if_neg h2]; omega
theorem uinv_start {rs : List Fac} {ls : List Int} (hll : ls.length = rs.length) (h0 : 0 < rs.length) : UInv rs ls rs.length (use0 rs.length) := by
  have h := fun j => use0_at rs.length j h0
  have z : ∀ (f : Nat → Int), sumTo (fun j => if j = rs.length - 1 then f j else 0) rs.length = f (rs.length - 1) := fun f => by
    rw [sumTo_upd (g := fun _ => 0) (rs.length - 1) (by omega) (fun j _ hne => by simp [hne]), sumTo_zero (fun _ _ => rfl)]
    simp
  refine ⟨by simp [use0], Nat.le_refl _, fun j => ?_, fun j => ?_, ?_, ?_⟩
  · rw [h]; split <;> omega
  · rw [h]; split <;> omega
  · have e : sumTo (fun j => (use0 rs.length).getD j 0 * ls.getD j 0) rs.length = lastI ls := by
      rw [sumTo_congr (g := fun j => if j = rs.length - 1 then ls.getD j 0 else 0) (fun j _ => by rw [h]; split <;> simp), z]
      unfold lastI; rw [hll]
    omega
  · have e : sumTo (fun j => (use0 rs.length).getD j 0) rs.length = 1 := by
      rw [sumTo_congr (g := fun j => if j = rs.length - 1 then (fun _ => (1 : Int)) j else 0) (fun j _ => by rw [h]), z]
    omega
theorem lens_last_le {ls : List Int} {rs : List Fac} (hls : gLens rs [] = some ls) (h0 : 0 < rs.length) (hll : ls.length = rs.length) : lastI ls ≤ 1000000000000000 := by
  unfold lastI
  have := lens_bound hls (i := ls.length - 1) (by omega)
  omega
theorem UInv.step {rs : List Fac} {ls : List Int} {i : Nat} {us : List Int} (hls : gLens rs [] = some ls) (hll : ls.length = rs.length) (h : UInv rs ls (i + 1) us) : UInv rs ls i (useStep rs us i) := by
  have hi : i < rs.length := h.le
  obtain ⟨r, hr⟩ : ∃ r, rs[i]? = some r := ⟨_, List.getElem?_eq_getElem hi⟩
  have hd := fac_getD hr
  have hlast := lens_last_le hls (by omega) hll
  have lnn : ∀ j, 0 ≤ useL rs us j := fun j => by unfold useL; split <;> first | omega | exact h.nn j
  unfold useStep
  rw [hd]
  have w := h.w
  have c := h.c
  have w1 : sumTo (fun j => us.getD j 0 * ls.getD j 0) (i + 1) = sumTo (fun j => us.getD j 0 * ls.getD j 0) i + us.getD i 0 * ls.getD i 0 := rfl
  have c1 : sumTo (fun j => us.getD j 0) (i + 1) = sumTo (fun j => us.getD j 0) i + us.getD i 0 := rfl
  have l1 : sumTo (useL rs us) (i + 1) = sumTo (useL rs us) i + useL rs us i := rfl
  have p1 : sumTo (useP rs us) (i + 1) = sumTo (useP rs us) i + useP rs us i := rfl
  by_cases h0 : r.l.size = 0
  · rw [if_pos h0]
    have lp := lens_pair hls hr h0
    rcases wf_of hls i r hr with ⟨_, ha0, ha1, hb0, hb1⟩ | ⟨cc, _, hxl, _⟩
    case inr => rw [hxl] at h0; exact absurd h0 (show ¬ (1 : Nat) = 0 by omega)
    have ha : r.a.toNat < us.length := by have := h.len; omega
    have hb : r.b.toNat < us.length := by have := h.len; omega
    have at_ := usePair_at (i := i) ha hb
    have eL : useL rs us i = 0 := by unfold useL; rw [hd, if_pos h0]
    have eP : useP rs us i = us.getD i 0 := by unfold useP; rw [hd, if_pos h0]
    -- what is left below i
    have wa : ∀ (f : Nat → Int), sumTo (fun j => (us.getD j 0 + (if j = r.a.toNat then us.getD i 0 else 0) + (if j = r.b.toNat then us.getD i 0 else 0)) * f j) i = sumTo (fun j => us.getD j 0 * f j) i + us.getD i 0 * f r.a.toNat + us.getD i 0 * f r.b.toNat := by
      intro f
      rw [sumTo_congr (g := fun j => (us.getD j 0 * f j + (if j = r.a.toNat then us.getD i 0 * f j else 0)) + (if j = r.b.toNat then us.getD i 0 * f j else 0)) (fun j _ => by
        rw [Int.add_mul, Int.add_mul, ite0_mul, ite0_mul])]
      rw [sumTo_add, sumTo_add]
      have z : ∀ a, a < i → sumTo (fun j => if j = a then us.getD i 0 * f j else 0) i = us.getD i 0 * f a := fun a ha => by
        rw [sumTo_upd (g := fun _ => 0) a ha (fun j _ hne => by simp [hne]), sumTo_zero (fun _ _ => rfl)]
        simp
      rw [z _ (by omega), z _ (by omega)]
    have wf := wa (fun j => ls.getD j 0)
    have wc := wa (fun _ => 1)
    simp only [Int.mul_one] at wc
    have ee : ∀ j, i ≤ j → (usePair us r.a.toNat r.b.toNat i).getD j 0 = us.getD j 0 := fun j hj => by rw [at_, if_neg (by omega), if_neg (by omega)]; simp
    have dl : sumTo (useL rs (usePair us r.a.toNat r.b.toNat i)) rs.length - sumTo (useL rs (usePair us r.a.toNat r.b.toNat i)) i = sumTo (useL rs us) rs.length - sumTo (useL rs us) i :=
      sumTo_diff (by omega) (fun j h1 _ => by unfold useL; rw [ee j h1])
    have dp : sumTo (useP rs (usePair us r.a.toNat r.b.toNat i)) rs.length - sumTo (useP rs (usePair us r.a.toNat r.b.toNat i)) i = sumTo (useP rs us) rs.length - sumTo (useP rs us) i :=
      sumTo_diff (by omega) (fun j h1 _ => by unfold useP; rw [ee j h1])
    have nn' : ∀ j, 0 ≤ (usePair us r.a.toNat r.b.toNat i).getD j 0 := fun j => by
      rw [at_]
      have := h.nn j; have := h.nn i
      split <;> split <;> omega
    have W : sumTo (fun j => (usePair us r.a.toNat r.b.toNat i).getD j 0 * ls.getD j 0) i + (sumTo (useL rs (usePair us r.a.toNat r.b.toNat i)) rs.length - sumTo (useL rs (usePair us r.a.toNat r.b.toNat i)) i) = lastI ls := by
      rw [dl, sumTo_congr (fun j _ => by rw [at_]), wf]
      rw [lp, Int.mul_add] at w1
      omega
    refine ⟨by rw [usePair_len]; exact h.len, by omega, nn', fun j => ?_, W, ?_⟩
    · by_cases hj : j < i
      · have hm := (sumTo_mem (f := fun j => (usePair us r.a.toNat r.b.toNat i).getD j 0 * ls.getD j 0) (i := i) (fun j hj => Int.mul_nonneg (nn' j) (by have := lens_bound hls (i := j) (by omega); omega))).2 j hj
        have hd2 := sumTo_mem (f := useL rs us) (i := rs.length) (fun j _ => lnn j)
        have hd3 : 0 ≤ sumTo (useL rs us) rs.length - sumTo (useL rs us) i := by
          have e : sumTo (useL rs us) rs.length - sumTo (useL rs us) i = sumTo (fun j => if j < i then 0 else useL rs us j) rs.length - sumTo (fun j => if j < i then 0 else useL rs us j) i :=
            sumTo_diff (by omega) (fun j h1 h2 => by rw [if_neg (by omega)])
          rw [e, sumTo_zero (i := i) (fun j hj => by rw [if_pos hj])]
          have := (sumTo_mem (f := fun j => if j < i then 0 else useL rs us j) (i := rs.length) (fun j _ => by split <;> first | omega | exact lnn j)).1
          omega
        have hb := lens_bound hls (i := j) (by omega)
        have hn := nn' j
        have hle : (usePair us r.a.toNat r.b.toNat i).getD j 0 ≤ (usePair us r.a.toNat r.b.toNat i).getD j 0 * ls.getD j 0 := by
          have := Int.mul_le_mul_of_nonneg_left hb.1 hn
          omega
        rw [dl] at W
        omega
      · rw [ee j (by omega)]
        exact h.bd j
    · rw [dl, dp, sumTo_congr (g := fun j => us.getD j 0 + (if j = r.a.toNat then us.getD i 0 else 0) + (if j = r.b.toNat then us.getD i 0 else 0)) (fun j _ => at_ j), wc]
      omega
  · rw [if_neg h0]
    have lt := lens_let hls hr h0
    have eL : useL rs us i = us.getD i 0 := by unfold useL; rw [hd, if_neg h0]
    have eP : useP rs us i = 0 := by unfold useP; rw [hd, if_neg h0]
    rw [lt, Int.mul_one] at w1
    exact ⟨h.len, by omega, h.nn, h.bd, by omega, by omega⟩
theorem useGo_inv {rs : List Fac} {ls : List Int} (hls : gLens rs [] = some ls) (hll : ls.length = rs.length) : ∀ (m : Nat) (us : List Int), UInv rs ls m us → UInv rs ls 0 (useGo rs m us)
  | 0, _, h => h
  | m + 1, us, h => useGo_inv hls hll m _ (h.step hls hll)
theorem uses_inv {rs : List Fac} {ls : List Int} (hls : gLens rs [] = some ls) (hll : ls.length = rs.length) (h0 : 0 < rs.length) : UInv rs ls 0 (usesOf rs) := useGo_inv hls hll _ _ (uinv_start hll h0)
/-- all pairs together are met once less than there are letters -/
theorem uses_pairs {rs : List Fac} {ls : List Int} (hls : gLens rs [] = some ls) (hll : ls.length = rs.length) (h0 : 0 < rs.length) : sumTo (useP rs (usesOf rs)) rs.length = lastI ls - 1 := by
  have h := uses_inv hls hll h0
  have w := h.w
  have c := h.c
  simp only [sumTo] at w c
  omega
end Go.Proofs.Ytlokofafojepdaa
