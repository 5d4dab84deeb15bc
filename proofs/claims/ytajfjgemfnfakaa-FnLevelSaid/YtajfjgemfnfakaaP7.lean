/-
  Texts of this claim, merged: Inv Use Letg UseI FoldE Pairs PairsI PairsS Runs WdU CtM JoinM Pow MapI.
-/
import Derived.Test.YtajfjgemfnfakaaP6
import Derived.Laws.BitsLemmas
import Derived.Laws.Bits64


/-
  InversionCount in the program and in the reference.
-/
namespace Go.Proofs.Ytajfjgemfnfakaa
open Go.RowKit

def invP (p q : Q4) (m : Int) (k l : Nat) : Int := p.at_ k % m * (q.at_ l % m)
def invT (p q : Q4) (m : Int) (k : Nat) : Nat → Int
  | 0 => 0
  | l + 1 => invT p q m k l + (if l < k then invP p q m k l % m else 0)
def invS (p q : Q4) (m : Int) : Nat → Int
  | 0 => 0
  | k + 1 => invS p q m k + invT p q m k 4
def invG (cs : List Q4) (m : Int) (x y : Int) (r : Fac) : Int := (x + y + invS (cs.getD r.a.toNat Q4.nil) (cs.getD r.b.toNat Q4.nil) m 4) % m
theorem invT_b (p q : Q4) {m : Int} (h1 : 1 ≤ m) (h2 : m ≤ 1000000000) (k : Nat) : ∀ l : Nat, 0 ≤ invT p q m k l ∧ invT p q m k l ≤ 1000000000 * l
  | 0 => by simp [invT]
  | l + 1 => by
    have := invT_b p q h1 h2 k l
    have e := emod_b (a := invP p q m k l) (m := m) (by omega)
    unfold invT
    split <;> omega
theorem invS_b (p q : Q4) {m : Int} (h1 : 1 ≤ m) (h2 : m ≤ 1000000000) : ∀ k : Nat, 0 ≤ invS p q m k ∧ invS p q m k ≤ 4000000000 * k
  | 0 => by simp [invS]
  | k + 1 => by
    have := invS_b p q h1 h2 k
    have := invT_b p q h1 h2 k 4
    unfold invS
    omega
theorem invT_stop (p q : Q4) (m : Int) (k : Nat) : ∀ d : Nat, invT p q m k (k + d) = invT p q m k k
  | 0 => rfl
  | d + 1 => by
    rw [show k + (d + 1) = (k + d) + 1 by omega, invT, if_neg (by omega), invT_stop p q m k d]; omega
theorem invT_four (p q : Q4) (m : Int) {k : Nat} (h : k ≤ 4) : invT p q m k 4 = invT p q m k k := by
  rw [show 4 = k + (4 - k) by omega, invT_stop]
theorem inv_mod (a p m : Int) : (a % m + p) % m = (a + p % m) % m := by
  rw [Int.emod_add_emod, Int.add_emod_emod]
theorem inv_bound {rs : List Fac} {ls : List Int} (hls : gLens rs [] = some ls) {m : Int} (h1 : 1 ≤ m) (h2 : m ≤ 1000000000) {k : Nat} (hk : k < rs.length) :
    0 ≤ (full 0 plF (invG (cnts rs) m) rs).getD k 0 ∧ (full 0 plF (invG (cnts rs) m) rs).getD k 0 ≤ 1000000000 := by
  refine full_ind 0 plF (invG (cnts rs) m) (wf_of hls) (fun _ x => 0 ≤ x ∧ x ≤ 1000000000) (fun k r _ _ => ?_) (fun k r a b hr h0 ha0 ha1 hb0 hb1 ha hb => ?_) k hk
  · show (0 : Int) ≤ 0 ∧ (0 : Int) ≤ 1000000000
    omega
  · have q := emod_b (a := a + b + invS ((cnts rs).getD r.a.toNat Q4.nil) ((cnts rs).getD r.b.toNat Q4.nil) m 4) (m := m) (by omega)
    exact ⟨q.1, by show (a + b + _) % m ≤ _; omega⟩
def invV (rs : List Fac) (m : Int) : Value :=
  if (gOk rs).isSome = false then tup2 0 1 else if inB m 1 1000000000 = false then tup2 0 2 else tup2 (topI plF (invG (cnts rs) m) rs) 0
theorem invV_form (rs : List Fac) (m : Int) : ∃ b k, invV rs m = .tuple #[.int .i64 b, .int .i64 k] := by
  unfold invV
  split
  · exact ⟨_, _, rfl⟩
  split
  · exact ⟨_, _, rfl⟩
  · exact ⟨_, _, rfl⟩
theorem invV1 {rs : List Fac} {m : Int} (h : (gOk rs).isSome = false) : invV rs m = tup2 0 1 := by unfold invV; rw [if_pos h]
theorem invV3 {rs : List Fac} {m : Int} (h : (gOk rs).isSome = true) (h3 : inB m 1 1000000000 = false) : invV rs m = tup2 0 2 := by unfold invV; rw [if_neg (by rw [h]; decide), if_pos h3]
theorem invV4 {rs : List Fac} {m : Int} (h : (gOk rs).isSome = true) (h3 : inB m 1 1000000000 = true) : invV rs m = tup2 (topI plF (invG (cnts rs) m) rs) 0 := by
  unfold invV; rw [if_neg (by rw [h]; decide), if_neg (by rw [h3]; decide)]
theorem Rd.q4c {w : World} {B n : Nat} {A : Option Addr} {xs : List Q4} {k : Nat} (h : Rd w B A n 4 encQ4 xs) (hk : k < n) :
    ∃ b o x, A = some ⟨b, o, none⟩ ∧ b < B ∧ xs.getD k Q4.nil = x ∧ w.cell? ⟨b, o + k * 4, none⟩ = some (.int .i64 x.a) ∧ w.cell? ⟨b, o + k * 4 + 1, none⟩ = some (.int .i64 x.b) ∧
      w.cell? ⟨b, o + k * 4 + 2, none⟩ = some (.int .i64 x.c) ∧ w.cell? ⟨b, o + k * 4 + 3, none⟩ = some (.int .i64 x.d) := by
  obtain ⟨b, o, hA, hb, x, hx, hc⟩ := h.at_ hk
  exact ⟨b, o, x, hA, hb, by rw [List.getD_eq_getElem?_getD, hx]; rfl, hc 0 _ rfl, hc 1 _ rfl, hc 2 _ rfl, hc 3 _ rfl⟩
end Go.Proofs.Ytajfjgemfnfakaa


/-
  How often each rule is met: the plain part.
-/
namespace Go.Proofs.Ytajfjgemfnfakaa

def sumTo (f : Nat → Int) : Nat → Int
  | 0 => 0
  | i + 1 => sumTo f i + f i
theorem sumTo_congr {f g : Nat → Int} : ∀ {i : Nat}, (∀ j, j < i → f j = g j) → sumTo f i = sumTo g i
  | 0, _ => rfl
  | i + 1, h => by
    show sumTo f i + f i = sumTo g i + g i
    rw [sumTo_congr (fun j hj => h j (by omega)), h i (by omega)]
theorem sumTo_upd {f g : Nat → Int} (a : Nat) : ∀ {i : Nat}, a < i → (∀ j, j < i → j ≠ a → f j = g j) → sumTo f i = sumTo g i + (f a - g a)
  | 0, h, _ => absurd h (by omega)
  | i + 1, h, hj => by
    show sumTo f i + f i = sumTo g i + g i + (f a - g a)
    by_cases he : a = i
    · subst he
      rw [sumTo_congr (i := a) (fun j h' => hj j (by omega) (by omega))]
      omega
    · rw [sumTo_upd a (i := i) (by omega) (fun j h1 h2 => hj j (by omega) h2), hj i (by omega) (fun e => he e.symm)]
      omega
theorem sumTo_diff {f g : Nat → Int} {i : Nat} : ∀ {n : Nat}, i ≤ n → (∀ j, i ≤ j → j < n → f j = g j) → sumTo f n - sumTo f i = sumTo g n - sumTo g i
  | 0, h, _ => by
    obtain rfl : i = 0 := by omega
    omega
  | n + 1, h, hj => by
    by_cases he : i = n + 1
    · subst he; omega
    · have := sumTo_diff (f := f) (g := g) (i := i) (n := n) (by omega) (fun j h1 h2 => hj j h1 (by omega))
      have h2 := hj n (by omega) (by omega)
      show sumTo f n + f n - sumTo f i = sumTo g n + g n - sumTo g i
      omega
theorem sumTo_add (f g : Nat → Int) : ∀ i, sumTo (fun j => f j + g j) i = sumTo f i + sumTo g i
  | 0 => rfl
  | i + 1 => by
    show sumTo (fun j => f j + g j) i + (f i + g i) = sumTo f i + f i + (sumTo g i + g i)
    rw [sumTo_add f g i]; omega
theorem sumTo_zero : ∀ {f : Nat → Int} {i : Nat}, (∀ j, j < i → f j = 0) → sumTo f i = 0
  | f, 0, _ => rfl
  | f, i + 1, h => by
    show sumTo f i + f i = 0
    rw [sumTo_zero (fun j hj => h j (by omega)), h i (by omega)]; rfl
theorem sumTo_mem {f : Nat → Int} : ∀ {i : Nat}, (∀ j, j < i → 0 ≤ f j) → 0 ≤ sumTo f i ∧ ∀ j, j < i → f j ≤ sumTo f i
  | 0, _ => ⟨by simp [sumTo], fun j hj => absurd hj (by omega)⟩
  | i + 1, h => by
    have ih := sumTo_mem (f := f) (i := i) (fun j hj => h j (by omega))
    have h1 := h i (by omega)
    refine ⟨by show 0 ≤ sumTo f i + f i; omega, fun j hj => ?_⟩
    show f j ≤ sumTo f i + f i
    by_cases he : j = i
    · subst he; omega
    · have := ih.2 j (by omega); omega

def usePair (us : List Int) (a b i : Nat) : List Int :=
  (us.set a (us.getD a 0 + us.getD i 0)).set b ((us.set a (us.getD a 0 + us.getD i 0)).getD b 0 + us.getD i 0)
def usStep (rs : List Fac) (us : List Int) (i : Nat) : List Int := if (rs.getD i default).l.size = 0 then usePair us (rs.getD i default).a.toNat (rs.getD i default).b.toNat i else us
def useGo (rs : List Fac) : Nat → List Int → List Int
  | 0, us => us
  | i + 1, us => useGo rs i (usStep rs us i)
def us0 (n : Nat) : List Int := (List.replicate n 0).set (n - 1) 1
/-- how often each rule is met -/
def usesOf (rs : List Fac) : List Int := useGo rs rs.length (us0 rs.length)

theorem getD_set (us : List Int) (a j : Nat) (v : Int) (ha : a < us.length) : (us.set a v).getD j 0 = if j = a then v else us.getD j 0 := by
  rw [List.getD_eq_getElem?_getD, List.getD_eq_getElem?_getD, List.getElem?_set]
  by_cases h : a = j
  · subst h; simp [ha]
  · rw [if_neg h, if_neg (fun e => h e.symm)]
theorem use0_at (n j : Nat) (hn : 0 < n) : (us0 n).getD j 0 = if j = n - 1 then 1 else 0 := by
  unfold us0
  rw [getD_set _ _ _ _ (by simp; omega)]
  congr 1
  rw [List.getD_eq_getElem?_getD, List.getElem?_replicate]
  split <;> rfl
/-- a letter's part, a pair's part -/
def useL (rs : List Fac) (us : List Int) (j : Nat) : Int := if (rs.getD j default).l.size = 0 then 0 else us.getD j 0
def useP (rs : List Fac) (us : List Int) (j : Nat) : Int := if (rs.getD j default).l.size = 0 then us.getD j 0 else 0
theorem ite0_mul (c : Prop) [Decidable c] (x y : Int) : (if c then x else 0) * y = if c then x * y else 0 := by split <;> simp
structure UInv (rs : List Fac) (ls : List Int) (m : Nat) (us : List Int) : Prop where
  len : us.length = rs.length
  le : m ≤ rs.length
  nn : ∀ j, 0 ≤ us.getD j 0
  bd : ∀ j, us.getD j 0 ≤ 1000000000000000
  w : sumTo (fun j => us.getD j 0 * ls.getD j 0) m + (sumTo (useL rs us) rs.length - sumTo (useL rs us) m) = lastI ls
  c : sumTo (fun j => us.getD j 0) m + (sumTo (useL rs us) rs.length - sumTo (useL rs us) m) = 1 + (sumTo (useP rs us) rs.length - sumTo (useP rs us) m)
theorem fac_getD {rs : List Fac} {i : Nat} {r : Fac} (h : rs[i]? = some r) : rs.getD i default = r := by rw [List.getD_eq_getElem?_getD, h]; rfl
theorem usePair_len (us : List Int) (a b i : Nat) : (usePair us a b i).length = us.length := by unfold usePair; simp
theorem usePair_at {us : List Int} {a b i : Nat} (ha : a < us.length) (hb : b < us.length) (j : Nat) :
    (usePair us a b i).getD j 0 = us.getD j 0 + (if j = a then us.getD i 0 else 0) + (if j = b then us.getD i 0 else 0) := by
  unfold usePair
  rw [getD_set _ _ _ _ (by simpa using hb)]
  have q := fun j => getD_set us a j (us.getD a 0 + us.getD i 0) ha
  rw [q, q]
  by_cases h1 : j = b
  · by_cases h2 : j = a
    · rw [if_pos h1, if_pos h1, if_pos h2, ← h1, if_pos h2, h2]
    · rw [if_pos h1, if_pos h1, if_neg h2, ← h1, if_neg h2]; omega
  · by_cases h2 : j = a
    · rw [if_neg h1, if_neg h1, if_pos h2, if_pos h2, h2]; omega
    · rw [if_neg h1, if_neg h1, if_neg h2, if_neg h2]; omega
theorem uinv_start {rs : List Fac} {ls : List Int} (hll : ls.length = rs.length) (h0 : 0 < rs.length) : UInv rs ls rs.length (us0 rs.length) := by
  have h := fun j => use0_at rs.length j h0
  have z : ∀ (f : Nat → Int), sumTo (fun j => if j = rs.length - 1 then f j else 0) rs.length = f (rs.length - 1) := fun f => by
    rw [sumTo_upd (g := fun _ => 0) (rs.length - 1) (by omega) (fun j _ hne => by simp [hne]), sumTo_zero (fun _ _ => rfl)]
    simp
  refine ⟨by simp [us0], Nat.le_refl _, fun j => ?_, fun j => ?_, ?_, ?_⟩
  · rw [h]; split <;> omega
  · rw [h]; split <;> omega
  · have e : sumTo (fun j => (us0 rs.length).getD j 0 * ls.getD j 0) rs.length = lastI ls := by
      rw [sumTo_congr (g := fun j => if j = rs.length - 1 then ls.getD j 0 else 0) (fun j _ => by rw [h]; split <;> simp), z]
      unfold lastI; rw [hll]
    omega
  · have e : sumTo (fun j => (us0 rs.length).getD j 0) rs.length = 1 := by
      rw [sumTo_congr (g := fun j => if j = rs.length - 1 then (fun _ => (1 : Int)) j else 0) (fun j _ => by rw [h]), z]
    omega
theorem lens_last_le {ls : List Int} {rs : List Fac} (hls : gLens rs [] = some ls) (h0 : 0 < rs.length) (hll : ls.length = rs.length) : lastI ls ≤ 1000000000000000 := by
  unfold lastI
  have := lens_bound hls (i := ls.length - 1) (by omega)
  omega
theorem UInv.step {rs : List Fac} {ls : List Int} {i : Nat} {us : List Int} (hls : gLens rs [] = some ls) (hll : ls.length = rs.length) (h : UInv rs ls (i + 1) us) : UInv rs ls i (usStep rs us i) := by
  have hi : i < rs.length := h.le
  obtain ⟨r, hr⟩ : ∃ r, rs[i]? = some r := ⟨_, List.getElem?_eq_getElem hi⟩
  have hd := fac_getD hr
  have hlast := lens_last_le hls (by omega) hll
  have lnn : ∀ j, 0 ≤ useL rs us j := fun j => by unfold useL; split <;> first | omega | exact h.nn j
  unfold usStep
  rw [hd]
  have w := h.w
  have c := h.c
  have w1 : sumTo (fun j => us.getD j 0 * ls.getD j 0) (i + 1) = sumTo (fun j => us.getD j 0 * ls.getD j 0) i + us.getD i 0 * ls.getD i 0 := rfl
  have c1 : sumTo (fun j => us.getD j 0) (i + 1) = sumTo (fun j => us.getD j 0) i + us.getD i 0 := rfl
  have l1 : sumTo (useL rs us) (i + 1) = sumTo (useL rs us) i + useL rs us i := rfl
  have p1 : sumTo (useP rs us) (i + 1) = sumTo (useP rs us) i + useP rs us i := rfl
  by_cases h0 : r.l.size = 0
  · rw [if_pos h0]
    have lp := lens_pair hls hr h0
    rcases wf_of hls i r hr with ⟨_, ha0, ha1, hb0, hb1⟩ | ⟨cc, _, hxl, _⟩
    case inr => rw [hxl] at h0; exact absurd h0 (show ¬ (1 : Nat) = 0 by omega)
    have ha : r.a.toNat < us.length := by have := h.len; omega
    have hb : r.b.toNat < us.length := by have := h.len; omega
    have at_ := usePair_at (i := i) ha hb
    have eL : useL rs us i = 0 := by unfold useL; rw [hd, if_pos h0]
    have eP : useP rs us i = us.getD i 0 := by unfold useP; rw [hd, if_pos h0]
    -- what is left below i
    have wa : ∀ (f : Nat → Int), sumTo (fun j => (us.getD j 0 + (if j = r.a.toNat then us.getD i 0 else 0) + (if j = r.b.toNat then us.getD i 0 else 0)) * f j) i = sumTo (fun j => us.getD j 0 * f j) i + us.getD i 0 * f r.a.toNat + us.getD i 0 * f r.b.toNat := by
      intro f
      rw [sumTo_congr (g := fun j => (us.getD j 0 * f j + (if j = r.a.toNat then us.getD i 0 * f j else 0)) + (if j = r.b.toNat then us.getD i 0 * f j else 0)) (fun j _ => by
        rw [Int.add_mul, Int.add_mul, ite0_mul, ite0_mul])]
      rw [sumTo_add, sumTo_add]
      have z : ∀ a, a < i → sumTo (fun j => if j = a then us.getD i 0 * f j else 0) i = us.getD i 0 * f a := fun a ha => by
        rw [sumTo_upd (g := fun _ => 0) a ha (fun j _ hne => by simp [hne]), sumTo_zero (fun _ _ => rfl)]
        simp
      rw [z _ (by omega), z _ (by omega)]
    have wf := wa (fun j => ls.getD j 0)
    have wc := wa (fun _ => 1)
    simp only [Int.mul_one] at wc
    have ee : ∀ j, i ≤ j → (usePair us r.a.toNat r.b.toNat i).getD j 0 = us.getD j 0 := fun j hj => by rw [at_, if_neg (by omega), if_neg (by omega)]; simp
    have dl : sumTo (useL rs (usePair us r.a.toNat r.b.toNat i)) rs.length - sumTo (useL rs (usePair us r.a.toNat r.b.toNat i)) i = sumTo (useL rs us) rs.length - sumTo (useL rs us) i :=
      sumTo_diff (by omega) (fun j h1 _ => by unfold useL; rw [ee j h1])
    have dp : sumTo (useP rs (usePair us r.a.toNat r.b.toNat i)) rs.length - sumTo (useP rs (usePair us r.a.toNat r.b.toNat i)) i = sumTo (useP rs us) rs.length - sumTo (useP rs us) i :=
      sumTo_diff (by omega) (fun j h1 _ => by unfold useP; rw [ee j h1])
    have nn' : ∀ j, 0 ≤ (usePair us r.a.toNat r.b.toNat i).getD j 0 := fun j => by
      rw [at_]
      have := h.nn j; have := h.nn i
      split <;> split <;> omega
    have W : sumTo (fun j => (usePair us r.a.toNat r.b.toNat i).getD j 0 * ls.getD j 0) i + (sumTo (useL rs (usePair us r.a.toNat r.b.toNat i)) rs.length - sumTo (useL rs (usePair us r.a.toNat r.b.toNat i)) i) = lastI ls := by
      rw [dl, sumTo_congr (fun j _ => by rw [at_]), wf]
      rw [lp, Int.mul_add] at w1
      omega
    refine ⟨by rw [usePair_len]; exact h.len, by omega, nn', fun j => ?_, W, ?_⟩
    · by_cases hj : j < i
      · have hm := (sumTo_mem (f := fun j => (usePair us r.a.toNat r.b.toNat i).getD j 0 * ls.getD j 0) (i := i) (fun j hj => Int.mul_nonneg (nn' j) (by have := lens_bound hls (i := j) (by omega); omega))).2 j hj
        have hd2 := sumTo_mem (f := useL rs us) (i := rs.length) (fun j _ => lnn j)
        have hd3 : 0 ≤ sumTo (useL rs us) rs.length - sumTo (useL rs us) i := by
          have e : sumTo (useL rs us) rs.length - sumTo (useL rs us) i = sumTo (fun j => if j < i then 0 else useL rs us j) rs.length - sumTo (fun j => if j < i then 0 else useL rs us j) i :=
            sumTo_diff (by omega) (fun j h1 h2 => by rw [if_neg (by omega)])
          rw [e, sumTo_zero (i := i) (fun j hj => by rw [if_pos hj])]
          have := (sumTo_mem (f := fun j => if j < i then 0 else useL rs us j) (i := rs.length) (fun j _ => by split <;> first | omega | exact lnn j)).1
          omega
        have hb := lens_bound hls (i := j) (by omega)
        have hn := nn' j
        have hle : (usePair us r.a.toNat r.b.toNat i).getD j 0 ≤ (usePair us r.a.toNat r.b.toNat i).getD j 0 * ls.getD j 0 := by
          have := Int.mul_le_mul_of_nonneg_left hb.1 hn
          omega
        rw [dl] at W
        omega
      · rw [ee j (by omega)]
        exact h.bd j
    · rw [dl, dp, sumTo_congr (g := fun j => us.getD j 0 + (if j = r.a.toNat then us.getD i 0 else 0) + (if j = r.b.toNat then us.getD i 0 else 0)) (fun j _ => at_ j), wc]
      omega
  · rw [if_neg h0]
    have lt := lens_let hls hr h0
    have eL : useL rs us i = us.getD i 0 := by unfold useL; rw [hd, if_neg h0]
    have eP : useP rs us i = 0 := by unfold useP; rw [hd, if_neg h0]
    rw [lt, Int.mul_one] at w1
    exact ⟨h.len, by omega, h.nn, h.bd, by omega, by omega⟩
theorem useGo_inv {rs : List Fac} {ls : List Int} (hls : gLens rs [] = some ls) (hll : ls.length = rs.length) : ∀ (m : Nat) (us : List Int), UInv rs ls m us → UInv rs ls 0 (useGo rs m us)
  | 0, _, h => h
  | m + 1, us, h => useGo_inv hls hll m _ (h.step hls hll)
theorem uses_inv {rs : List Fac} {ls : List Int} (hls : gLens rs [] = some ls) (hll : ls.length = rs.length) (h0 : 0 < rs.length) : UInv rs ls 0 (usesOf rs) := useGo_inv hls hll _ _ (uinv_start hll h0)
/-- all pairs together are met once less than there are letters -/
theorem uses_pairs {rs : List Fac} {ls : List Int} (hls : gLens rs [] = some ls) (hll : ls.length = rs.length) (h0 : 0 < rs.length) : sumTo (useP rs (usesOf rs)) rs.length = lastI ls - 1 := by
  have h := uses_inv hls hll h0
  have w := h.w
  have c := h.c
  simp only [sumTo] at w c
  omega
end Go.Proofs.Ytajfjgemfnfakaa


/-
  Rows of numbers that are filled one by one; the bytes of a plain word.
-/
namespace Go.Proofs.Ytajfjgemfnfakaa
open Go.RowKit

theorem okW_b {p : ByteArray} (h : okW p = true) : p.size ≤ 2000 ∧ ∀ i (hi : i < p.size), letB (p[i]'hi) = true := by
  simp only [okW, Bool.and_eq_true, decide_eq_true_eq, List.all_eq_true] at h
  refine ⟨h.1, fun i hi => h.2 _ ?_⟩
  exact List.mem_of_getElem? (at_byte p i hi)
theorem made_at {n j : Nat} (h : j < n) : (madeCells (Value.int .i64 0).cells (n * 1))[j]? = some (.int .i64 0) := by
  rw [Array.getElem?_eq_getElem (by rw [size_madeCells]; simpa [Value.cells] using h)]
  simp [madeCells, Value.cells, Nat.mod_one]
theorem fillc {f : Nat → Int} {cs : Array Value} {n k : Nat} (hs : cs.size = n) (hk : k < n) (hc : ∀ j, j < n → cs[j]? = some (.int .i64 (if j < k then f j else 0))) (v : Int) (hv : f k = v) :
    (cs.setIfInBounds k (.int .i64 v)).size = n ∧ ∀ j, j < n → (cs.setIfInBounds k (.int .i64 v))[j]? = some (.int .i64 (if j < k + 1 then f j else 0)) := by
  refine ⟨by simpa using hs, fun j hj => ?_⟩
  by_cases h : j = k
  · subst h
    rw [Array.getElem?_setIfInBounds_self_of_lt (by omega), if_pos (by omega), hv]
  · rw [Array.getElem?_setIfInBounds_ne (by omega), hc j hj]
    by_cases h2 : j < k
    · rw [if_pos h2, if_pos (by omega)]
    · rw [if_neg h2, if_neg (by omega)]
theorem keepc {f : Nat → Int} {cs : Array Value} {n k : Nat} (hk : k < n) (hc : ∀ j, j < n → cs[j]? = some (.int .i64 (if j < k then f j else 0))) (hv : f k = 0) :
    ∀ j, j < n → cs[j]? = some (.int .i64 (if j < k + 1 then f j else 0)) := by
  intro j hj
  rw [hc j hj]
  by_cases h : j = k
  · subst h
    rw [if_neg (by omega), if_pos (by omega), hv]
  · by_cases h2 : j < k
    · rw [if_pos h2, if_pos (by omega)]
    · rw [if_neg h2, if_neg (by omega)]
theorem Rd.n64 {w : World} {B n : Nat} {A : Option Addr} {xs : List Int} {k : Nat} (h : Rd w B A n 1 intE xs) (hk : k < n) :
    ∃ b o, A = some ⟨b, o, none⟩ ∧ b < B ∧ w.cell? ⟨b, o + k, none⟩ = some (.int .i64 (xs.getD k 0)) := by
  obtain ⟨b, o, hA, hb, x, hx, hc⟩ := h.at_ hk
  refine ⟨b, o, hA, hb, ?_⟩
  have := hc 0 _ rfl
  rw [List.getD_eq_getElem?_getD, hx]
  simpa using this
end Go.Proofs.Ytajfjgemfnfakaa


/-
  How often each rule is met: in the program and in the reference.
-/
namespace Go.Proofs.Ytajfjgemfnfakaa
open Go.RowKit

def arrI (us : List Int) : Array Value := (us.map fun z => Value.int .i64 z).toArray
theorem arrI_size (us : List Int) : (arrI us).size = us.length := by simp [arrI]
theorem arrI_at {us : List Int} {j : Nat} (h : j < us.length) : (arrI us)[j]? = some (.int .i64 (us.getD j 0)) := by
  simp [arrI, List.getElem?_eq_getElem h, List.getD_eq_getElem?_getD]
theorem arrI_set (us : List Int) (a : Nat) (v : Int) : (arrI us).setIfInBounds a (.int .i64 v) = arrI (us.set a v) := by
  simp [arrI, List.map_set]
theorem made_arrI (n : Nat) : madeCells #[Value.int .i64 0] n = arrI (List.replicate n 0) := by
  apply Array.ext_getElem?
  intro i
  by_cases h : i < n
  · rw [arrI_at (by simpa using h)]
    have := made_at (n := n) (j := i) h
    rw [Nat.mul_one] at this
    rw [show (Value.int IntKind.i64 0).cells = #[Value.int .i64 0] from rfl] at this
    rw [this, List.getD_eq_getElem?_getD, List.getElem?_replicate, if_pos h]; rfl
  · rw [Array.getElem?_eq_none (by rw [size_madeCells]; omega), Array.getElem?_eq_none (by rw [arrI_size]; simp; omega)]
theorem arrI_own {w : World} {base g : Nat} {us : List Int} (hB : Blk w g 2 (arrI us)) (hg : base ≤ g) (hm : us.length ≤ maxLen) : w.ownsRow base 2 1 (.slice (some ⟨g, 0, none⟩) us.length us.length) us.length (us.flatMap intE) :=
  own_of_blk hB hg (by rw [arrI_size, Nat.mul_one]) rfl hm (fun _ _ => rfl) (fun k x hx j hj => by
    obtain rfl : j = 0 := by omega
    have hk : k < us.length := (List.getElem?_eq_some_iff.1 hx).1
    rw [Nat.mul_one, Nat.add_zero, arrI_at hk, List.getD_eq_getElem?_getD, hx]; rfl)
theorem useStep_pair {rs : List Fac} {i : Nat} {r : Fac} (h : rs[i]? = some r) (h0 : r.l.size = 0) (us : List Int) : usStep rs us i = usePair us r.a.toNat r.b.toNat i := by
  unfold usStep; rw [fac_getD h, if_pos h0]
theorem useStep_let {rs : List Fac} {i : Nat} {r : Fac} (h : rs[i]? = some r) (h0 : r.l.size ≠ 0) (us : List Int) : usStep rs us i = us := by
  unfold usStep; rw [fac_getD h, if_neg h0]
end Go.Proofs.Ytajfjgemfnfakaa


/-
  impl.folded at [2]int: what it makes of a grammar, by the contracts of the two functions that it is handed.
-/
namespace Go.Proofs.Ytajfjgemfnfakaa
open Go.RowKit

structure Ed where
  f : Int
  l : Int
  deriving Inhabited, DecidableEq
def Ed.nil : Ed := ⟨0, 0⟩
def encEd (y : Ed) : List Value := [.int .i64 y.f, .int .i64 y.l]
theorem lenEd (y : Ed) : (encEd y).length = 2 := rfl

end Go.Proofs.Ytajfjgemfnfakaa


/-
  How often letters come behind letters: the table, and what makes it.
-/
namespace Go.Proofs.Ytajfjgemfnfakaa
open Go.RowKit

/-- one fold told by another one -/
theorem full_map {α β : Type} (d : α) (F : Nat → α) (G : α → α → Fac → α) (d' : β) (F' : Nat → β) (G' : β → β → Fac → β) (h : α → β) {rs : List Fac} (hwf : WF rs) (hF : ∀ l, h (F l) = F' l) (hG : ∀ a b r, h (G a b r) = G' (h a) (h b) r) :
    ∀ k, k < rs.length → h ((full d F G rs).getD k d) = (full d' F' G' rs).getD k d' := by
  intro k
  induction k using Nat.strongRecOn with
  | ind k ih =>
    intro hk
    have gx : rs[k]? = some (rs[k]'(by omega)) := List.getElem?_eq_getElem _
    rcases hwf k _ gx with ⟨h0, ha0, ha1, hb0, hb1⟩ | ⟨c, hc, hl, _⟩
    · rw [full_pair d F G hwf gx h0, full_pair d' F' G' hwf gx h0, hG, ih _ (by omega) (by omega), ih _ (by omega) (by omega)]
    · have h0 : (rs[k]'(by omega)).l.size ≠ 0 := by rw [hl]; show (1 : Nat) ≠ 0; omega
      rw [full_let d F G gx h0, full_let d' F' G' gx h0, hF]
def edF (l : Nat) : Int := (l : Int)
def edGf (a _ : Int) (_ : Fac) : Int := a
def edGl (_ b : Int) (_ : Fac) : Int := b
/-- the number of the first letter, of the last letter -/
abbrev edf (rs : List Fac) : List Int := full 0 edF edGf rs
abbrev edl (rs : List Fac) : List Int := full 0 edF edGl rs
theorem ed_b {G : Int → Int → Fac → Int} (hG : ∀ a b r, G a b r = a ∨ G a b r = b) {rs : List Fac} (hwf : WF rs) {k : Nat} (hk : k < rs.length) : 0 ≤ (full 0 edF G rs).getD k 0 ∧ (full 0 edF G rs).getD k 0 < 4 := by
  refine full_ind 0 edF G hwf (fun _ x => 0 ≤ x ∧ x < 4) (fun k r hr h => ?_) (fun k r a b hr h0 h1 h2 h3 h4 ha hb => ?_) k hk
  · have := letN_lt h
    show 0 ≤ ((letN r.l : Nat) : Int) ∧ ((letN r.l : Nat) : Int) < 4
    omega
  · rcases hG a b r with h | h
    · show 0 ≤ G a b r ∧ G a b r < 4
      rw [h]; exact ha
    · show 0 ≤ G a b r ∧ G a b r < 4
      rw [h]; exact hb
theorem edf_b {rs : List Fac} (hwf : WF rs) {k : Nat} (hk : k < rs.length) : 0 ≤ (edf rs).getD k 0 ∧ (edf rs).getD k 0 < 4 := ed_b (fun _ _ _ => .inl rfl) hwf hk
theorem edl_b {rs : List Fac} (hwf : WF rs) {k : Nat} (hk : k < rs.length) : 0 ≤ (edl rs).getD k 0 ∧ (edl rs).getD k 0 < 4 := ed_b (fun _ _ _ => .inr rfl) hwf hk

def Q4.plus (q : Q4) (l : Nat) (v : Int) : Q4 := match l with
  | 0 => ⟨q.a + v, q.b, q.c, q.d⟩
  | 1 => ⟨q.a, q.b + v, q.c, q.d⟩
  | 2 => ⟨q.a, q.b, q.c + v, q.d⟩
  | _ => ⟨q.a, q.b, q.c, q.d + v⟩
def Q4.sum (q : Q4) : Int := q.a + q.b + q.c + q.d
theorem Q4.plus_sum (q : Q4) (l : Nat) (v : Int) : (q.plus l v).sum = q.sum + v := by
  match l with
  | 0 => simp [Q4.plus, Q4.sum]; omega
  | 1 => simp [Q4.plus, Q4.sum]; omega
  | 2 => simp [Q4.plus, Q4.sum]; omega
  | _ + 3 => simp [Q4.plus, Q4.sum]; omega
theorem Q4.plus_set (q : Q4) {l : Nat} (h : l < 4) (v : Int) : ((encQ4 q).toArray).setIfInBounds l (.int .i64 (q.at_ l + v)) = (encQ4 (q.plus l v)).toArray := by
  match l, h with
  | 0, _ => rfl
  | 1, _ => rfl
  | 2, _ => rfl
  | 3, _ => rfl
def Q4.bd (q : Q4) (m : Int) : Prop := ∀ j, 0 ≤ q.at_ j ∧ q.at_ j ≤ m
theorem Q4.plus_bd {q : Q4} {m v : Int} (h : q.bd m) (l : Nat) (h0 : 0 ≤ v) : (q.plus l v).bd (m + v) := by
  intro j
  have h1 : 0 ≤ q.a ∧ q.a ≤ m := h 0
  have h2 : 0 ≤ q.b ∧ q.b ≤ m := h 1
  have h3 : 0 ≤ q.c ∧ q.c ≤ m := h 2
  have h4 : 0 ≤ q.d ∧ q.d ≤ m := h 3
  match l with
  | 0 => match j with
    | 0 => show 0 ≤ q.a + v ∧ q.a + v ≤ m + v; omega
    | 1 => show 0 ≤ q.b ∧ q.b ≤ m + v; omega
    | 2 => show 0 ≤ q.c ∧ q.c ≤ m + v; omega
    | _ + 3 => show 0 ≤ q.d ∧ q.d ≤ m + v; omega
  | 1 => match j with
    | 0 => show 0 ≤ q.a ∧ q.a ≤ m + v; omega
    | 1 => show 0 ≤ q.b + v ∧ q.b + v ≤ m + v; omega
    | 2 => show 0 ≤ q.c ∧ q.c ≤ m + v; omega
    | _ + 3 => show 0 ≤ q.d ∧ q.d ≤ m + v; omega
  | 2 => match j with
    | 0 => show 0 ≤ q.a ∧ q.a ≤ m + v; omega
    | 1 => show 0 ≤ q.b ∧ q.b ≤ m + v; omega
    | 2 => show 0 ≤ q.c + v ∧ q.c + v ≤ m + v; omega
    | _ + 3 => show 0 ≤ q.d ∧ q.d ≤ m + v; omega
  | _ + 3 => match j with
    | 0 => show 0 ≤ q.a ∧ q.a ≤ m + v; omega
    | 1 => show 0 ≤ q.b ∧ q.b ≤ m + v; omega
    | 2 => show 0 ≤ q.c ∧ q.c ≤ m + v; omega
    | _ + 3 => show 0 ≤ q.d + v ∧ q.d + v ≤ m + v; omega
def addT (qs : List Q4) (k l : Nat) (v : Int) : List Q4 := qs.set k ((qs.getD k Q4.nil).plus l v)
def pcT (rs : List Fac) : Nat → List Q4
  | 0 => [Q4.nil, Q4.nil, Q4.nil, Q4.nil]
  | i + 1 => if (rs.getD i default).l.size = 0 then addT (pcT rs i) ((edl rs).getD (rs.getD i default).a.toNat 0).toNat ((edf rs).getD (rs.getD i default).b.toNat 0).toNat ((usesOf rs).getD i 0) else pcT rs i
/-- how often each letter comes right behind each one -/
abbrev pcAll (rs : List Fac) : List Q4 := pcT rs rs.length
theorem pcT_len (rs : List Fac) : ∀ i, (pcT rs i).length = 4
  | 0 => rfl
  | i + 1 => by
    unfold pcT
    split
    · unfold addT; rw [List.length_set]; exact pcT_len rs i
    · exact pcT_len rs i
theorem pcT_pair {rs : List Fac} {i : Nat} {r : Fac} (h : rs[i]? = some r) (h0 : r.l.size = 0) : pcT rs (i + 1) = addT (pcT rs i) ((edl rs).getD r.a.toNat 0).toNat ((edf rs).getD r.b.toNat 0).toNat ((usesOf rs).getD i 0) := by
  show (if (rs.getD i default).l.size = 0 then _ else _) = _
  rw [fac_getD h, if_pos h0]
theorem pcT_let {rs : List Fac} {i : Nat} {r : Fac} (h : rs[i]? = some r) (h0 : r.l.size ≠ 0) : pcT rs (i + 1) = pcT rs i := by
  show (if (rs.getD i default).l.size = 0 then _ else _) = _
  rw [fac_getD h, if_neg h0]
theorem qgetD_set (qs : List Q4) (k j : Nat) (q : Q4) (hk : k < qs.length) : (qs.set k q).getD j Q4.nil = if j = k then q else qs.getD j Q4.nil := by
  rw [List.getD_eq_getElem?_getD, List.getD_eq_getElem?_getD, List.getElem?_set]
  by_cases h : k = j
  · subst h; simp [hk]
  · rw [if_neg h, if_neg (fun e => h e.symm)]
theorem pcT_bd {rs : List Fac} {ls : List Int} (hls : gLens rs [] = some ls) (hll : ls.length = rs.length) : ∀ i, i ≤ rs.length → ∀ k, ((pcT rs i).getD k Q4.nil).bd (1000000000000000 * i)
  | 0, _, k => by
    have : (pcT rs 0).getD k Q4.nil = Q4.nil := by
      match k with
      | 0 => rfl
      | 1 => rfl
      | 2 => rfl
      | 3 => rfl
      | _ + 4 => rfl
    rw [this]
    intro j
    match j with
    | 0 => exact ⟨Int.le_refl _, by simp [Q4.at_, Q4.nil]⟩
    | 1 => exact ⟨Int.le_refl _, by simp [Q4.at_, Q4.nil]⟩
    | 2 => exact ⟨Int.le_refl _, by simp [Q4.at_, Q4.nil]⟩
    | _ + 3 => exact ⟨Int.le_refl _, by simp [Q4.at_, Q4.nil]⟩
  | i + 1, hi, k => by
    have ih := pcT_bd hls hll i (by omega)
    have U := uses_inv hls hll (by omega)
    have u1 := U.nn i
    have u2 := U.bd i
    have up : ∀ {q : Q4} {m m' : Int}, q.bd m → m ≤ m' → q.bd m' := fun h h2 j => by have := h j; omega
    unfold pcT
    split
    · unfold addT
      by_cases hk : ((edl rs).getD (rs.getD i default).a.toNat 0).toNat < 4
      · rw [qgetD_set _ _ _ _ (by rw [pcT_len]; exact hk)]
        split
        · exact up (Q4.plus_bd (ih _) _ u1) (by omega)
        · exact up (ih k) (by omega)
      · rw [List.set_eq_of_length_le (by rw [pcT_len]; omega)]
        exact up (ih k) (by omega)
    · exact up (ih k) (by omega)
def totT (qs : List Q4) : Int := ((qs.getD 0 Q4.nil).sum + (qs.getD 1 Q4.nil).sum) + ((qs.getD 2 Q4.nil).sum + (qs.getD 3 Q4.nil).sum)
theorem totT_add (qs : List Q4) (hq : qs.length = 4) {k : Nat} (hk : k < 4) (l : Nat) (v : Int) : totT (addT qs k l v) = totT qs + v := by
  unfold totT addT
  rw [qgetD_set _ _ _ _ (by omega), qgetD_set _ _ _ _ (by omega), qgetD_set _ _ _ _ (by omega), qgetD_set _ _ _ _ (by omega)]
  match k, hk with
  | 0, _ => simp [Q4.plus_sum]; omega
  | 1, _ => simp [Q4.plus_sum]; omega
  | 2, _ => simp [Q4.plus_sum]; omega
  | 3, _ => simp [Q4.plus_sum]; omega
theorem pcT_tot {rs : List Fac} (hwf : WF rs) : ∀ i, i ≤ rs.length → totT (pcT rs i) = sumTo (useP rs (usesOf rs)) i
  | 0, _ => rfl
  | i + 1, hi => by
    have ih := pcT_tot hwf i (by omega)
    have gx : rs[i]? = some (rs[i]'(by omega)) := List.getElem?_eq_getElem _
    show _ = sumTo (useP rs (usesOf rs)) i + useP rs (usesOf rs) i
    unfold useP
    rw [fac_getD gx]
    rcases hwf i _ gx with ⟨h0, ha0, ha1, hb0, hb1⟩ | ⟨c, hc, hl, _⟩
    · rw [pcT_pair gx h0, if_pos h0, totT_add _ (pcT_len _ _) (by have := edl_b hwf (k := (rs[i]'(by omega)).a.toNat) (by omega); omega), ih]; rfl
    · have h0 : (rs[i]'(by omega)).l.size ≠ 0 := by rw [hl]; show (1 : Nat) ≠ 0; omega
      rw [pcT_let gx h0, if_neg h0, ih]; unfold useP; omega
/-- all pairs of letters: one less than letters -/
theorem pc_total {rs : List Fac} {ls : List Int} (hls : gLens rs [] = some ls) (hll : ls.length = rs.length) (h0 : 0 < rs.length) : totT (pcAll rs) = lastI ls - 1 := by
  rw [pcT_tot (wf_of hls) _ (Nat.le_refl _), uses_pairs hls hll h0]

/-- the rows of a table, which lie apart -/
def PTab (w : World) (base : Nat) (gs : List Nat) (qs : List Q4) : Prop := RowsOk w base gs qs ∧ ∀ (i j g : Nat), gs[i]? = some g → gs[j]? = some g → i = j
theorem PTab.below {w w' : World} {base : Nat} {gs : List Nat} {qs : List Q4} (h : PTab w base gs qs) (hb : Below w.heap.size w w') : PTab w' base gs qs :=
  ⟨⟨h.1.1, fun i g hg => ⟨(h.1.2 i g hg).1, (h.1.2 i g hg).2.next hb⟩⟩, h.2⟩
theorem PTab.at_ {w : World} {base : Nat} {gs : List Nat} {qs : List Q4} (h : PTab w base gs qs) {k g : Nat} (hg : gs[k]? = some g) {l : Nat} (hl : l < 4) : w.cell? ⟨g, l, none⟩ = some (.int .i64 ((qs.getD k Q4.nil).at_ l)) := by
  rw [(h.1.2 k g hg).2.cell l]
  simpa using encQ4_at (qs.getD k Q4.nil) hl
theorem PTab.set_ {w : World} {base : Nat} {gs : List Nat} {qs : List Q4} (h : PTab w base gs qs) {k g : Nat} (hg : gs[k]? = some g) {l : Nat} (hl : l < 4) (v : Int) :
    PTab (w.setCell ⟨g, l, none⟩ (.int .i64 ((qs.getD k Q4.nil).at_ l + v))) base gs (addT qs k l v) := by
  have hk : k < qs.length := by rw [← h.1.1]; exact (List.getElem?_eq_some_iff.1 hg).1
  refine ⟨⟨by unfold addT; rw [List.length_set]; exact h.1.1, fun i p hp => ⟨(h.1.2 i p hp).1, ?_⟩⟩, h.2⟩
  unfold addT
  rw [qgetD_set _ _ _ _ hk]
  by_cases hi : i = k
  · subst hi
    obtain rfl : g = p := Option.some.inj (hg.symm.trans hp)
    rw [if_pos rfl, ← Q4.plus_set _ hl]
    exact (h.1.2 i g hg).2.set_ l _
  · rw [if_neg hi]
    exact (h.1.2 i p hp).2.far (fun e => hi (by
      have e : p = g := e
      subst e
      exact h.2 i k p hp hg)) _
/-- what the makers of the table leave -/
def RetPT (w0 : World) (qs : List Q4) (e : Ending) (w' : World) : Prop :=
  ∃ A c gs, e = .returned (.slice A qs.length c) ∧ w'.ownsRow w0.heap.size 55 1 (.slice A qs.length c) qs.length (gs.flatMap encG) ∧ PTab w' w0.heap.size gs qs ∧ Below w0.heap.size w0 w'
/-- one row more -/
theorem PTab.push {w w9 : World} {k c' g : Nat} {A' : Option Addr} {gs : List Nat} {qs : List Q4} {q : Q4} {base : Nat} (h : PTab w base gs qs) (hk : qs.length = k) (hO : w.ownsRow base 55 1 (.slice A' k c') k (gs.flatMap encG))
    (BL : Blk w g 2 (encQ4 q).toArray) (hg : base ≤ g) (hn : ∀ (i p : Nat), gs[i]? = some p → p < g) (o : Obj) (hg9 : (w.alloc o).grownBy w9 (Value.slice A' k c').ownBlock) : PTab w9 base (gs ++ [g]) (qs ++ [q]) := by
  refine ⟨rows_push (hO.alloc o) h.1 hk BL hg (fun _ _ _ hB => hB.alloc o) hg9, fun i j p hi hj => ?_⟩
  have lt : ∀ i, (gs ++ [g])[i]? = some p → i < gs.length ∧ gs[i]? = some p ∨ i = gs.length ∧ p = g := fun i hi => by
    by_cases h1 : i < gs.length
    · exact .inl ⟨h1, by rwa [List.getElem?_append_left h1] at hi⟩
    · have h2 := (List.getElem?_eq_some_iff.1 hi).1
      simp at h2
      have h3 : i = gs.length := by omega
      subst h3
      rw [List.getElem?_append_right (by omega)] at hi
      exact .inr ⟨rfl, by simpa using hi.symm⟩
  rcases lt i hi with ⟨a1, a2⟩ | ⟨a1, a2⟩ <;> rcases lt j hj with ⟨b1, b2⟩ | ⟨b1, b2⟩
  · exact h.2 i j p a2 b2
  · have := hn i p a2; omega
  · have := hn j p b2; omega
  · omega
end Go.Proofs.Ytajfjgemfnfakaa


/-
  How often letters come behind letters: in the program.
-/
namespace Go.Proofs.Ytajfjgemfnfakaa
open Go.RowKit

def edgF (l : Nat) : Ed := ⟨(l : Int), (l : Int)⟩
def edgG (a b : Ed) (_ : Fac) : Ed := ⟨a.f, b.l⟩
abbrev edgAll (rs : List Fac) : List Ed := full Ed.nil edgF edgG rs
theorem edg_f {rs : List Fac} (hwf : WF rs) {k : Nat} (hk : k < rs.length) : ((edgAll rs).getD k Ed.nil).f = (edf rs).getD k 0 :=
  full_map Ed.nil edgF edgG 0 edF edGf Ed.f hwf (fun _ => rfl) (fun _ _ _ => rfl) k hk
theorem edg_l {rs : List Fac} (hwf : WF rs) {k : Nat} (hk : k < rs.length) : ((edgAll rs).getD k Ed.nil).l = (edl rs).getD k 0 :=
  full_map Ed.nil edgF edgG 0 edF edGl Ed.l hwf (fun _ => rfl) (fun _ _ _ => rfl) k hk
/-- rows that are empty yet -/
def zT (k : Nat) : List Q4 := List.replicate k Q4.nil
theorem zT_succ (k : Nat) : zT (k + 1) = zT k ++ [Q4.nil] := by unfold zT; rw [List.replicate_succ']
theorem PTab.lt {w : World} {base : Nat} {gs : List Nat} {qs : List Q4} (h : PTab w base gs qs) : ∀ (i p : Nat), gs[i]? = some p → p < w.heap.size := fun i p hi => (h.1.2 i p hi).2.lt
theorem PTab.next {w w' : World} {base : Nat} {gs : List Nat} {qs : List Q4} (h : PTab w base gs qs) (hb : Below w.heap.size w w') : PTab w' base gs qs := h.below hb
theorem PTab.drew {w : World} {base : Nat} {gs : List Nat} {qs : List Q4} (h : PTab w base gs qs) : PTab w.drew base gs qs := h
/-- other rows stay as they are when a row is written -/
theorem own_row_set {w : World} {base e size n g l : Nat} {v : Value} {xs : List Value} {cs : Array Value} (h : w.ownsRow base e size v n xs) (hg : Blk w g 2 cs) (hne : e ≠ 2) (u : Value) : (w.setCell ⟨g, l, none⟩ u).ownsRow base e size v n xs :=
  Go.ownsRow_setCell_other h (fun he => own_blk_ne h hg hne he.symm) u
theorem own_ne_ty {w : World} {b1 b2 e1 e2 s1 s2 n1 n2 : Nat} {v1 v2 : Value} {xs1 xs2 : List Value} (h1 : w.ownsRow b1 e1 s1 v1 n1 xs1) (h2 : w.ownsRow b2 e2 s2 v2 n2 xs2) (hne : e1 ≠ e2) : v1.ownBlock = none ∨ v1.ownBlock ≠ v2.ownBlock := by
  rcases h1.2 with ⟨rfl, _⟩ | ⟨g1, c1, u1, rfl, _, hh1, _⟩
  · left; rfl
  · right
    rcases h2.2 with ⟨rfl, _⟩ | ⟨g2, c2, u2, rfl, _, hh2, _⟩
    · simp [Value.ownBlock]
    · intro he
      have hg : g1 = g2 := by simpa [Value.ownBlock] using he
      subst hg
      rw [hh1] at hh2
      injection hh2 with hh2
      injection hh2 with _ ht
      exact hne ht
/-- the table under way, and the list of uses -/
structure PInv (w : World) (bu B : Nat) (Au : Option Addr) (n cu : Nat) (us : List Int) (A' : Option Addr) (k c' : Nat) (gs : List Nat) (qs : List Q4) (w' : World) : Prop where
  hb : Below w.heap.size w w'
  lo : w.heap.size ≤ B
  sz : B ≤ w'.heap.size
  ou : w'.ownsRow bu 2 1 (.slice Au n cu) n (us.flatMap intE)
  ub : ∀ p, (Value.slice Au n cu).ownBlock = some p → p < B
  o : w'.ownsRow w.heap.size 55 1 (.slice A' k c') k (gs.flatMap encG)
  q : PTab w' B gs qs
  len : qs.length = k
theorem PInv.next {w w1 w2 : World} {bu B : Nat} {Au : Option Addr} {n cu : Nat} {us : List Int} {A' : Option Addr} {k c' : Nat} {gs : List Nat} {qs : List Q4} (h : PInv w bu B Au n cu us A' k c' gs qs w1) (hb : Below w1.heap.size w1 w2) : PInv w bu B Au n cu us A' k c' gs qs w2 :=
  ⟨h.hb.trans (hb.mono h.hb.size), h.lo, Nat.le_trans h.sz hb.size, own_next h.ou hb, h.ub, own_next h.o hb, h.q.next hb, h.len⟩
theorem PInv.set_ {w w1 : World} {bu B : Nat} {Au : Option Addr} {n cu : Nat} {us : List Int} {A' : Option Addr} {k c' : Nat} {gs : List Nat} {qs : List Q4} (h : PInv w bu B Au n cu us A' k c' gs qs w1) {i g l : Nat} (hg : gs[i]? = some g) (hl : l < 4) (v : Int) :
    PInv w bu B Au n cu us A' k c' gs (addT qs i l v) (w1.setCell ⟨g, l, none⟩ (.int .i64 ((qs.getD i Q4.nil).at_ l + v))).drew := by
  have r := h.q.1.2 i g hg
  refine ⟨(h.hb.setCell (Nat.le_trans h.lo r.1) _).drew, h.lo, by simpa using h.sz, (Go.ownsRow_setCell_other h.ou (fun e => by have := h.ub _ e; have := r.1; simp at *; omega) _).drew, h.ub, (own_row_set h.o r.2 (by decide) _).drew, (h.q.set_ hg hl v).drew, by unfold addT; rw [List.length_set]; exact h.len⟩
theorem PInv.push {w wr w9 : World} {bu B : Nat} {Au : Option Addr} {n cu : Nat} {us : List Int} {A' A9 : Option Addr} {k c' c9 : Nat} {gs : List Nat} {qs : List Q4} {o : Obj} (h : PInv w bu B Au n cu us A' k c' gs qs wr)
    (own9 : w9.ownsRow w.heap.size 55 1 (.slice A9 (k + 1) c9) (k + 1) ((gs ++ [wr.heap.size]).flatMap encG))
    (hg9 : ((wr.alloc (.cells (encQ4 Q4.nil).toArray 2)).alloc o).grownBy w9 (Value.slice A' k c').ownBlock) : PInv w bu B Au n cu us A9 (k + 1) c9 (gs ++ [wr.heap.size]) (qs ++ [Q4.nil]) w9 := by
  have b0 := h.hb.size
  have hs : ((wr.alloc (.cells (encQ4 Q4.nil).toArray 2)).alloc o).heap.size = wr.heap.size + 2 := by simp
  refine ⟨((h.hb.alloc b0 _).alloc (by simp; omega) _).grown hg9 (by rw [hs]; omega) (own_ge h.o), h.lo, ?_, ?_, h.ub, own9, ?_, by rw [List.length_append]; simp [h.len]⟩
  · have := hg9.size; have := h.sz; omega
  · exact ((h.ou.alloc _).alloc _).kept hg9 (own_ne_ty h.ou h.o (by decide))
  · have P := PTab.push (w := wr.alloc (.cells (encQ4 Q4.nil).toArray 2)) (base := w.heap.size) (gs := gs) (qs := qs) ⟨⟨h.q.1.1, fun i g hg => ⟨Nat.le_trans h.lo (h.q.1.2 i g hg).1, (h.q.1.2 i g hg).2.alloc _⟩⟩, h.q.2⟩ h.len (h.o.alloc _) (Blk.new wr _ _) b0 h.q.lt o hg9
    refine ⟨⟨P.1.1, fun i g hg => ⟨?_, (P.1.2 i g hg).2⟩⟩, P.2⟩
    by_cases h1 : i < gs.length
    · rw [List.getElem?_append_left h1] at hg
      exact (h.q.1.2 i g hg).1
    · rw [List.getElem?_append_right (by omega)] at hg
      have h2 := (List.getElem?_eq_some_iff.1 hg).1
      rw [show i - gs.length = 0 by simp at h2; omega] at hg
      have : wr.heap.size = g := by simpa using hg
      rw [← this]; exact h.sz
theorem PInv.blk {w wr w9 : World} {bu B : Nat} {Au : Option Addr} {n cu : Nat} {us : List Int} {A' : Option Addr} {k c' : Nat} {gs : List Nat} {qs : List Q4} {o1 o2 : Obj} (h : PInv w bu B Au n cu us A' k c' gs qs wr) {g : Nat} {t : TypeId} {cs : Array Value} (hB : Blk wr g t cs) (ht : 55 ≠ t)
    (hg9 : ((wr.alloc o1).alloc o2).grownBy w9 (Value.slice A' k c').ownBlock) : Blk w9 g t cs :=
  ((hB.alloc _).alloc _).grown hg9 (own_blk_ne h.o hB ht)
theorem PInv.ret {w w1 : World} {bu B : Nat} {Au : Option Addr} {n cu : Nat} {us : List Int} {A' : Option Addr} {c' : Nat} {gs : List Nat} {rs : List Fac} (h : PInv w bu B Au n cu us A' 4 c' gs (pcT rs rs.length) w1) : RetPT w (pcAll rs) (.returned (.slice A' 4 c')) w1 := by
  refine ⟨A', c', gs, ret_slice (pcT_len _ _).symm, ?_, ⟨⟨h.q.1.1, fun i g hg => ⟨Nat.le_trans h.lo (h.q.1.2 i g hg).1, (h.q.1.2 i g hg).2⟩⟩, h.q.2⟩, h.hb⟩
  rw [pcT_len]; exact h.o
end Go.Proofs.Ytajfjgemfnfakaa


/-
  How often letters come behind letters: in the reference.
-/
namespace Go.Proofs.Ytajfjgemfnfakaa
open Go.RowKit

/-- two lists of numbers that grow -/
structure Two (w : World) (A1 : Option Addr) (k1 c1 : Nat) (xs1 : List Int) (A2 : Option Addr) (k2 c2 : Nat) (xs2 : List Int) (w' : World) : Prop where
  hb : Below w.heap.size w w'
  o1 : w'.ownsRow w.heap.size 2 1 (.slice A1 k1 c1) k1 (xs1.flatMap intE)
  o2 : w'.ownsRow w.heap.size 2 1 (.slice A2 k2 c2) k2 (xs2.flatMap intE)
  ne : ∀ p, (Value.slice A1 k1 c1).ownBlock = some p → (Value.slice A2 k2 c2).ownBlock ≠ some p
theorem Two.next {w w1 w2 : World} {A1 A2 : Option Addr} {k1 c1 k2 c2 : Nat} {xs1 xs2 : List Int} (h : Two w A1 k1 c1 xs1 A2 k2 c2 xs2 w1) (hb : Below w1.heap.size w1 w2) : Two w A1 k1 c1 xs1 A2 k2 c2 xs2 w2 :=
  ⟨h.hb.trans (hb.mono h.hb.size), own_next h.o1 hb, own_next h.o2 hb, h.ne⟩
theorem Two.swap {w w1 : World} {A1 A2 : Option Addr} {k1 c1 k2 c2 : Nat} {xs1 xs2 : List Int} (h : Two w A1 k1 c1 xs1 A2 k2 c2 xs2 w1) : Two w A2 k2 c2 xs2 A1 k1 c1 xs1 w1 :=
  ⟨h.hb, h.o2, h.o1, fun p h2 h1 => h.ne p h1 h2⟩
theorem Two.push {w wr w9 : World} {A1 A2 A9 : Option Addr} {k1 c1 k2 c2 c9 : Nat} {xs1 xs2 : List Int} {o : Obj} {v : Int} (h : Two w A1 k1 c1 xs1 A2 k2 c2 xs2 wr)
    (own9 : w9.ownsRow w.heap.size 2 1 (.slice A9 (k1 + 1) c9) (k1 + 1) ((xs1 ++ [v]).flatMap intE))
    (hg9 : (wr.alloc o).grownBy w9 (Value.slice A1 k1 c1).ownBlock)
    (hat9 : (Value.slice A9 (k1 + 1) c9).ownBlock = (Value.slice A1 k1 c1).ownBlock ∨ (Value.slice A9 (k1 + 1) c9).ownBlock = some (wr.alloc o).heap.size) : Two w A9 (k1 + 1) c9 (xs1 ++ [v]) A2 k2 c2 xs2 w9 := by
  have b0 := h.hb.size
  refine ⟨(h.hb.alloc b0 _).grown hg9 (by simp; omega) (own_ge h.o1), own9, (h.o2.alloc _).kept hg9 ?_, fun p hp => ?_⟩
  · cases hv : (Value.slice A2 k2 c2).ownBlock with
    | none => exact .inl rfl
    | some q => exact .inr fun e => h.ne q e.symm hv
  · rcases hat9 with e | e
    · exact h.ne p (e.symm.trans hp)
    · intro e2
      rw [hp] at e
      have := (h.o2.lt p e2).2
      injection e with e
      simp at e
      omega
/-- what 'l05Edges' leaves -/
def RetTwo (w : World) (xs ys : List Int) (e : Ending) (w' : World) : Prop :=
  ∃ A1 c1 A2 c2, e = .returned (.tuple #[.slice A1 xs.length c1, .slice A2 ys.length c2]) ∧ w'.ownsRow w.heap.size 2 1 (.slice A1 xs.length c1) xs.length (xs.flatMap intE) ∧ w'.ownsRow w.heap.size 2 1 (.slice A2 ys.length c2) ys.length (ys.flatMap intE) ∧ Below w.heap.size w w'
/-- the table under way -/
structure PTin (w : World) (A' : Option Addr) (k c' : Nat) (gs : List Nat) (qs : List Q4) (w' : World) : Prop where
  hb : Below w.heap.size w w'
  o : w'.ownsRow w.heap.size 55 1 (.slice A' k c') k (gs.flatMap encG)
  q : PTab w' w.heap.size gs qs
  len : qs.length = k
theorem PTin.next {w w1 w2 : World} {A' : Option Addr} {k c' : Nat} {gs : List Nat} {qs : List Q4} (h : PTin w A' k c' gs qs w1) (hb : Below w1.heap.size w1 w2) : PTin w A' k c' gs qs w2 :=
  ⟨h.hb.trans (hb.mono h.hb.size), own_next h.o hb, h.q.next hb, h.len⟩
theorem PTin.set_ {w w1 : World} {A' : Option Addr} {k c' : Nat} {gs : List Nat} {qs : List Q4} (h : PTin w A' k c' gs qs w1) {i g l : Nat} (hg : gs[i]? = some g) (hl : l < 4) (v : Int) :
    PTin w A' k c' gs (addT qs i l v) (w1.setCell ⟨g, l, none⟩ (.int .i64 ((qs.getD i Q4.nil).at_ l + v))) := by
  have r := h.q.1.2 i g hg
  exact ⟨h.hb.setCell r.1 _, own_row_set h.o r.2 (by decide) _, h.q.set_ hg hl v, by unfold addT; rw [List.length_set]; exact h.len⟩
theorem PTin.push {w wr w9 : World} {A' A9 : Option Addr} {k c' c9 : Nat} {gs : List Nat} {qs : List Q4} {o : Obj} (h : PTin w A' k c' gs qs wr)
    (own9 : w9.ownsRow w.heap.size 55 1 (.slice A9 (k + 1) c9) (k + 1) ((gs ++ [wr.heap.size]).flatMap encG))
    (hg9 : ((wr.alloc (.cells (encQ4 Q4.nil).toArray 2)).alloc o).grownBy w9 (Value.slice A' k c').ownBlock) : PTin w A9 (k + 1) c9 (gs ++ [wr.heap.size]) (qs ++ [Q4.nil]) w9 := by
  have b0 := h.hb.size
  have hs : ((wr.alloc (.cells (encQ4 Q4.nil).toArray 2)).alloc o).heap.size = wr.heap.size + 2 := by simp
  refine ⟨((h.hb.alloc b0 _).alloc (by simp; omega) _).grown hg9 (by rw [hs]; omega) (own_ge h.o), own9, ?_, by rw [List.length_append]; simp [h.len]⟩
  exact PTab.push (w := wr.alloc (.cells (encQ4 Q4.nil).toArray 2)) (base := w.heap.size) (gs := gs) (qs := qs) ⟨⟨h.q.1.1, fun i g hg => ⟨(h.q.1.2 i g hg).1, (h.q.1.2 i g hg).2.alloc _⟩⟩, h.q.2⟩ h.len (h.o.alloc _) (Blk.new wr _ _) b0 h.q.lt o hg9
theorem PTin.ret {w w1 : World} {A' : Option Addr} {c' : Nat} {gs : List Nat} {rs : List Fac} (h : PTin w A' 4 c' gs (pcT rs rs.length) w1) : RetPT w (pcAll rs) (.returned (.slice A' 4 c')) w1 := by
  refine ⟨A', c', gs, ret_slice (pcT_len _ _).symm, ?_, h.q, h.hb⟩
  rw [pcT_len]; exact h.o
theorem own_cell {w : World} {base n c : Nat} {A : Option Addr} {xs : List Int} (h : w.ownsRow base 2 1 (.slice A n c) n (xs.flatMap intE)) (hl : xs.length = n) {i : Nat} (hi : i < n) :
    ∃ g, A = some ⟨g, 0, none⟩ ∧ base ≤ g ∧ g < w.heap.size ∧ w.cell? ⟨g, i, none⟩ = some (.int .i64 (xs.getD i 0)) := by
  obtain ⟨g, cp, hv, h1, h2⟩ := h.form (by omega)
  obtain rfl : A = some ⟨g, 0, none⟩ := by injection hv
  refine ⟨g, rfl, h1, h2, ?_⟩
  have := own_at (sz := 1) (enc := intE) (fun _ _ => rfl) h hl 0 i hi 0 (by omega)
  rw [Nat.mul_one, Nat.add_zero] at this; exact this
end Go.Proofs.Ytajfjgemfnfakaa


/-
  The number of runs: in the program and in the reference.
-/
namespace Go.Proofs.Ytajfjgemfnfakaa
open Go.RowKit

def offA (qs : List Q4) (k l : Nat) : Int := if k = l then 0 else (qs.getD k Q4.nil).at_ l
def rowOff (qs : List Q4) (k : Nat) : Int := sumTo (offA qs k) 4
def diagA (qs : List Q4) (k : Nat) : Int := (qs.getD k Q4.nil).at_ k
theorem off_diag (qs : List Q4) : sumTo (rowOff qs) 4 + sumTo (diagA qs) 4 = totT qs := by
  simp only [sumTo, rowOff, offA, diagA, totT, Q4.sum, Q4.at_, if_true, show ¬ (0 : Nat) = 1 by omega, show ¬ (0 : Nat) = 2 by omega, show ¬ (0 : Nat) = 3 by omega, show ¬ (1 : Nat) = 0 by omega, show ¬ (1 : Nat) = 2 by omega, show ¬ (1 : Nat) = 3 by omega,
    show ¬ (2 : Nat) = 0 by omega, show ¬ (2 : Nat) = 1 by omega, show ¬ (2 : Nat) = 3 by omega, show ¬ (3 : Nat) = 0 by omega, show ¬ (3 : Nat) = 1 by omega, show ¬ (3 : Nat) = 2 by omega, if_false]
  omega
def runsN (rs : List Fac) : Int := if rs.length = 0 then 0 else 1 + sumTo (rowOff (pcAll rs)) 4
theorem runs_spec {rs : List Fac} {ls : List Int} (hls : gLens rs [] = some ls) (hll : ls.length = rs.length) : lastI ls - sumTo (diagA (pcAll rs)) 4 = runsN rs := by
  unfold runsN
  split
  · rename_i h
    have h1 := List.eq_nil_of_length_eq_zero h
    subst h1
    have h2 := List.eq_nil_of_length_eq_zero hll
    subst h2
    rfl
  · have := off_diag (pcAll rs)
    rw [pc_total hls hll (by omega)] at this
    omega
def runsV (rs : List Fac) : Value := if (gOk rs).isSome = false then tup2 0 1 else tup2 (runsN rs) 0
theorem runsV_form (rs : List Fac) : ∃ b k, runsV rs = .tuple #[.int .i64 b, .int .i64 k] := by
  unfold runsV
  split
  · exact ⟨_, _, rfl⟩
  · exact ⟨_, _, rfl⟩
theorem runsV1 {rs : List Fac} (h : (gOk rs).isSome = false) : runsV rs = tup2 0 1 := by unfold runsV; rw [if_pos h]
theorem runsV2 {rs : List Fac} (h : (gOk rs).isSome = true) : runsV rs = tup2 (runsN rs) 0 := by unfold runsV; rw [if_neg (by rw [h]; decide)]
theorem offA_b {rs : List Fac} {ls : List Int} (hls : gLens rs [] = some ls) (hll : ls.length = rs.length) (hn : rs.length ≤ 400) (k l : Nat) : 0 ≤ ((pcAll rs).getD k Q4.nil).at_ l ∧ ((pcAll rs).getD k Q4.nil).at_ l ≤ 400000000000000000 := by
  have := pcT_bd hls hll rs.length (Nat.le_refl _) k l
  exact ⟨this.1, Int.le_trans this.2 (by omega)⟩
end Go.Proofs.Ytajfjgemfnfakaa


/-
  What rules add, each as often as it is met; the pairs of letters of a word.
-/
namespace Go.Proofs.Ytajfjgemfnfakaa

theorem sum_one (n a : Nat) (v : Int) (f : Nat → Int) (h : a < n) : sumTo (fun j => (if j = a then v else 0) * f j) n = v * f a := by
  rw [sumTo_upd (g := fun _ => 0) a h (fun j _ hne => by simp [hne]), sumTo_zero (fun _ _ => rfl)]
  simp
theorem use_go {rs : List Fac} (hwf : WF rs) (c dl : Nat → Int) (hp : ∀ (i : Nat) (r : Fac), rs[i]? = some r → r.l.size = 0 → c i = c r.a.toNat + c r.b.toNat + dl i)
    (hl : ∀ (i : Nat) (r : Fac), rs[i]? = some r → r.l.size ≠ 0 → c i = 0 ∧ dl i = 0) (T : Int) :
    ∀ (m : Nat) (us : List Int), m ≤ rs.length → us.length = rs.length → sumTo (fun j => us.getD j 0 * c j) m + (sumTo (fun j => us.getD j 0 * dl j) rs.length - sumTo (fun j => us.getD j 0 * dl j) m) = T →
      sumTo (fun j => (useGo rs m us).getD j 0 * dl j) rs.length = T
  | 0, us, _, _, h => by
    have e1 : sumTo (fun j => us.getD j 0 * c j) 0 = 0 := rfl
    have e2 : sumTo (fun j => us.getD j 0 * dl j) 0 = 0 := rfl
    show sumTo (fun j => us.getD j 0 * dl j) rs.length = T
    omega
  | i + 1, us, hm, hlen, h => by
    have hr : rs[i]? = some rs[i] := List.getElem?_eq_getElem (by omega)
    have e1 : sumTo (fun j => us.getD j 0 * c j) (i + 1) = sumTo (fun j => us.getD j 0 * c j) i + us.getD i 0 * c i := rfl
    have e2 : sumTo (fun j => us.getD j 0 * dl j) (i + 1) = sumTo (fun j => us.getD j 0 * dl j) i + us.getD i 0 * dl i := rfl
    show sumTo (fun j => (useGo rs i (usStep rs us i)).getD j 0 * dl j) rs.length = T
    unfold usStep
    rw [fac_getD hr]
    rcases hwf i _ hr with ⟨h0, a0, a1, b0, b1⟩ | ⟨u, _, hlu, _, _⟩
    · rw [if_pos h0]
      have hc := hp i _ hr h0
      refine use_go hwf c dl hp hl T i _ (by omega) (by rw [usePair_len]; exact hlen) ?_
      have hat := usePair_at (us := us) (a := rs[i].a.toNat) (b := rs[i].b.toNat) (i := i) (by omega) (by omega)
      have s1 : sumTo (fun j => (usePair us rs[i].a.toNat rs[i].b.toNat i).getD j 0 * c j) i = sumTo (fun j => us.getD j 0 * c j) i + us.getD i 0 * c rs[i].a.toNat + us.getD i 0 * c rs[i].b.toNat := by
        rw [sumTo_congr (g := fun j => (us.getD j 0 * c j + (if j = rs[i].a.toNat then us.getD i 0 else 0) * c j) + (if j = rs[i].b.toNat then us.getD i 0 else 0) * c j) (fun j _ => by rw [hat, Int.add_mul, Int.add_mul]), sumTo_add, sumTo_add, sum_one _ _ _ _ (by omega), sum_one _ _ _ _ (by omega)]
      have s2 : sumTo (fun j => (usePair us rs[i].a.toNat rs[i].b.toNat i).getD j 0 * dl j) rs.length - sumTo (fun j => (usePair us rs[i].a.toNat rs[i].b.toNat i).getD j 0 * dl j) i = sumTo (fun j => us.getD j 0 * dl j) rs.length - sumTo (fun j => us.getD j 0 * dl j) i :=
        sumTo_diff (by omega) (fun j h1 h2 => by rw [hat, if_neg (by omega), if_neg (by omega)]; simp)
      have s3 : us.getD i 0 * c i = us.getD i 0 * c rs[i].a.toNat + us.getD i 0 * c rs[i].b.toNat + us.getD i 0 * dl i := by rw [hc, Int.mul_add, Int.mul_add]
      omega
    · have hz : rs[i].l.size ≠ 0 := by rw [hlu]; show (1 : Nat) ≠ 0; omega
      rw [if_neg hz]
      obtain ⟨z1, z2⟩ := hl i _ hr hz
      refine use_go hwf c dl hp hl T i us (by omega) hlen ?_
      rw [z1] at e1
      rw [z2] at e2
      simp only [Int.mul_zero] at e1 e2
      omega
/-- what is added at each rule of a pair, over all places where it is met -/
theorem use_sum {rs : List Fac} (hwf : WF rs) (h0 : 0 < rs.length) (c dl : Nat → Int) (hp : ∀ (i : Nat) (r : Fac), rs[i]? = some r → r.l.size = 0 → c i = c r.a.toNat + c r.b.toNat + dl i)
    (hl : ∀ (i : Nat) (r : Fac), rs[i]? = some r → r.l.size ≠ 0 → c i = 0 ∧ dl i = 0) : sumTo (fun j => (usesOf rs).getD j 0 * dl j) rs.length = c (rs.length - 1) := by
  refine use_go hwf c dl hp hl _ rs.length (us0 rs.length) (Nat.le_refl _) (by simp [us0]) ?_
  have e : sumTo (fun j => (us0 rs.length).getD j 0 * c j) rs.length = c (rs.length - 1) := by
    rw [sumTo_congr (g := fun j => (if j = rs.length - 1 then 1 else 0) * c j) (fun j _ => by rw [use0_at _ _ h0]), sum_one _ _ _ _ (by omega)]
    simp
  omega
/-- how often a letter stands right behind one -/
def adj (k l : Nat) : List Nat → Int
  | [] => 0
  | x :: r => (if x = k ∧ r.head? = some l then 1 else 0) + adj k l r
theorem adj_app (k l : Nat) : ∀ (u v : List Nat), u ≠ [] → adj k l (u ++ v) = adj k l u + adj k l v + if u.getLast? = some k ∧ v.head? = some l then 1 else 0
  | [], _, h => absurd rfl h
  | [x], v, _ => by
    simp only [List.singleton_append, adj, List.head?_nil, List.getLast?_singleton, Option.some.injEq]
    simp; omega
  | x :: y :: r, v, _ => by
    have ih := adj_app k l (y :: r) v (by simp)
    have e : (y :: r ++ v).head? = some y := rfl
    show (if x = k ∧ (y :: r ++ v).head? = some l then 1 else 0) + adj k l (y :: r ++ v) = (if x = k ∧ (y :: r).head? = some l then 1 else 0) + adj k l (y :: r) + adj k l v + _
    rw [ih, e, List.head?_cons, List.getLast?_cons_cons]; omega
theorem edf_word {rs : List Fac} (hwf : WF rs) {k : Nat} (hk : k < rs.length) : (edf rs).getD k 0 = ((((wds rs).getD k []).head?.getD 0 : Nat) : Int) :=
  full_hom (d := (0 : Int)) (F := edF) (G := edGf) hwf (fun u => ((u.head?.getD 0 : Nat) : Int)) (fun k _ => rfl) (fun u v r hu _ _ _ => by
    obtain ⟨x, t, rfl⟩ := List.exists_cons_of_ne_nil hu; rfl) k hk
theorem edl_word {rs : List Fac} (hwf : WF rs) {k : Nat} (hk : k < rs.length) : (edl rs).getD k 0 = ((((wds rs).getD k []).getLast?.getD 0 : Nat) : Int) :=
  full_hom (d := (0 : Int)) (F := edF) (G := edGl) hwf (fun u => ((u.getLast?.getD 0 : Nat) : Int)) (fun k _ => rfl) (fun u v r _ hv _ _ => by
    simp only [edGl]
    rw [List.getLast?_append, List.getLast?_eq_some_getLast hv]; rfl) k hk
theorem Q4.plus_at (q : Q4) {l j : Nat} (hl : l < 4) (hj : j < 4) (v : Int) : (q.plus l v).at_ j = q.at_ j + if j = l then v else 0 := by
  match l, hl, j, hj with
  | 0, _, 0, _ => rfl
  | 0, _, 1, _ => simp [Q4.plus, Q4.at_]
  | 0, _, 2, _ => simp [Q4.plus, Q4.at_]
  | 0, _, 3, _ => simp [Q4.plus, Q4.at_]
  | 1, _, 0, _ => simp [Q4.plus, Q4.at_]
  | 1, _, 1, _ => rfl
  | 1, _, 2, _ => simp [Q4.plus, Q4.at_]
  | 1, _, 3, _ => simp [Q4.plus, Q4.at_]
  | 2, _, 0, _ => simp [Q4.plus, Q4.at_]
  | 2, _, 1, _ => simp [Q4.plus, Q4.at_]
  | 2, _, 2, _ => rfl
  | 2, _, 3, _ => simp [Q4.plus, Q4.at_]
  | 3, _, 0, _ => simp [Q4.plus, Q4.at_]
  | 3, _, 1, _ => simp [Q4.plus, Q4.at_]
  | 3, _, 2, _ => simp [Q4.plus, Q4.at_]
  | 3, _, 3, _ => rfl
theorem addT_at {qs : List Q4} (hq : qs.length = 4) {k l k' l' : Nat} (hk : k < 4) (hl : l < 4) (hl' : l' < 4) (v : Int) : ((addT qs k l v).getD k' Q4.nil).at_ l' = (qs.getD k' Q4.nil).at_ l' + if k' = k ∧ l' = l then v else 0 := by
  unfold addT
  rw [qgetD_set _ _ _ _ (by omega)]
  by_cases h : k' = k
  · rw [if_pos h, Q4.plus_at _ hl hl', h]
    simp
  · rw [if_neg h, if_neg (fun q => h q.1)]; omega
/-- what a pair's rule adds -/
def adD (rs : List Fac) (k l j : Nat) : Int := if (rs.getD j default).l.size = 0 then (if ((wds rs).getD (rs.getD j default).a.toNat []).getLast? = some k ∧ ((wds rs).getD (rs.getD j default).b.toNat []).head? = some l then 1 else 0) else 0
theorem pcT_word {rs : List Fac} (hwf : WF rs) {k l : Nat} (_hk : k < 4) (hl : l < 4) : ∀ i, i ≤ rs.length → ((pcT rs i).getD k Q4.nil).at_ l = sumTo (fun j => (usesOf rs).getD j 0 * adD rs k l j) i
  | 0, _ => by
    have e : sumTo (fun j => (usesOf rs).getD j 0 * adD rs k l j) 0 = 0 := rfl
    rw [e]
    unfold pcT
    match k, _hk with
    | 0, _ => match l, hl with | 0, _ => rfl | 1, _ => rfl | 2, _ => rfl | 3, _ => rfl
    | 1, _ => match l, hl with | 0, _ => rfl | 1, _ => rfl | 2, _ => rfl | 3, _ => rfl
    | 2, _ => match l, hl with | 0, _ => rfl | 1, _ => rfl | 2, _ => rfl | 3, _ => rfl
    | 3, _ => match l, hl with | 0, _ => rfl | 1, _ => rfl | 2, _ => rfl | 3, _ => rfl
  | i + 1, hi => by
    have ih := pcT_word hwf _hk hl i (by omega)
    have hr : rs[i]? = some rs[i] := List.getElem?_eq_getElem (by omega)
    have e : sumTo (fun j => (usesOf rs).getD j 0 * adD rs k l j) (i + 1) = sumTo (fun j => (usesOf rs).getD j 0 * adD rs k l j) i + (usesOf rs).getD i 0 * adD rs k l i := rfl
    rw [e, ← ih]
    rcases hwf i _ hr with ⟨h0, a0, a1, b0, b1⟩ | ⟨u, _, hlu, _, _⟩
    · rw [pcT_pair hr h0]
      unfold adD
      rw [fac_getD hr, if_pos h0]
      have la := edl_word hwf (k := rs[i].a.toNat) (by omega)
      have fb := edf_word hwf (k := rs[i].b.toNat) (by omega)
      obtain ⟨x, t, hx⟩ := List.exists_cons_of_ne_nil (wds_pos hwf (k := rs[i].b.toNat) (by omega))
      have hne := wds_pos hwf (k := rs[i].a.toNat) (by omega)
      have hla := List.getLast?_eq_some_getLast hne
      have b1' := wds_let hwf (k := rs[i].a.toNat) (by omega) _ (List.getLast_mem hne)
      have b2' := wds_let hwf (k := rs[i].b.toNat) (by omega) x (by rw [hx]; simp)
      rw [hla] at la ⊢
      rw [hx] at fb ⊢
      simp only [Option.getD_some, List.head?_cons] at la fb ⊢
      rw [la, fb, Int.toNat_natCast, Int.toNat_natCast, addT_at (pcT_len _ _) b1' b2' hl]
      simp only [Option.some.injEq]
      split
      · rename_i h; rw [if_pos ⟨h.1.symm, h.2.symm⟩]; simp
      · rename_i h; rw [if_neg (fun q => h ⟨q.1.symm, q.2.symm⟩)]; simp
    · have hz : rs[i].l.size ≠ 0 := by rw [hlu]; show (1 : Nat) ≠ 0; omega
      rw [pcT_let hr hz]
      unfold adD
      rw [fac_getD hr, if_neg hz]; simp
/-- the pairs of letters are those of the word -/
theorem pc_word {rs : List Fac} (hwf : WF rs) {k l : Nat} (hk : k < 4) (hl : l < 4) : ((pcAll rs).getD k Q4.nil).at_ l = adj k l (wdN rs) := by
  unfold pcAll
  rw [pcT_word hwf hk hl _ (Nat.le_refl _)]
  unfold wdN
  split
  · rename_i h; subst h; rfl
  · rename_i h
    have h0 : 0 < rs.length := List.length_pos_iff.2 h
    refine use_sum hwf h0 (fun j => adj k l ((wds rs).getD j [])) (adD rs k l) (fun i r hr hz => ?_) (fun i r hr hz => ?_)
    · have hi := (List.getElem?_eq_some_iff.1 hr).1
      rcases hwf i r hr with ⟨_, a0, a1, b0, b1⟩ | ⟨u, _, hlu, _, _⟩
      · unfold adD
        rw [fac_getD hr, if_pos hz]
        rw [show (wds rs).getD i [] = (wds rs).getD r.a.toNat [] ++ (wds rs).getD r.b.toNat [] from full_pair [] wdF wdG hwf hr hz, adj_app k l _ _ (wds_pos hwf (by omega))]
      · rw [hlu] at hz; exact absurd hz (show ¬ (1 : Nat) = 0 by omega)
    · unfold adD
      rw [fac_getD hr, if_neg hz]
      refine ⟨?_, rfl⟩
      rw [show (wds rs).getD i [] = [letN r.l] from full_let [] wdF wdG hr hz]
      simp [adj]
end Go.Proofs.Ytajfjgemfnfakaa


/-
  Counts, ranks and selections of letters, inversions and places: what they are for the word.
-/
namespace Go.Proofs.Ytajfjgemfnfakaa

def cn (l : Nat) (u : List Nat) : Int := (u.count l : Int)
theorem cn_app (l : Nat) (u v : List Nat) : cn l (u ++ v) = cn l u + cn l v := by simp [cn, List.count_append]
theorem cn_nil (l : Nat) : cn l [] = 0 := rfl
theorem cn_cons (l x : Nat) (u : List Nat) : cn l (x :: u) = (if x = l then 1 else 0) + cn l u := by
  unfold cn
  rw [List.count_cons]
  by_cases h : x = l
  · simp [h]; omega
  · simp [h]
theorem cn_rev (l : Nat) (u : List Nat) : cn l u.reverse = cn l u := by simp [cn]
theorem cn_nn (l : Nat) (u : List Nat) : 0 ≤ cn l u := by unfold cn; omega
theorem cn_le (l : Nat) (u : List Nat) : cn l u ≤ u.length := by unfold cn; exact Int.ofNat_le.2 List.count_le_length
/-- all counts of a word -/
def cq (u : List Nat) : Q4 := ⟨cn 0 u, cn 1 u, cn 2 u, cn 3 u⟩
theorem cq_at (u : List Nat) {l : Nat} (h : l < 4) : (cq u).at_ l = cn l u := by
  match l, h with
  | 0, _ => rfl
  | 1, _ => rfl
  | 2, _ => rfl
  | 3, _ => rfl
theorem cnts_word {rs : List Fac} (hwf : WF rs) {k : Nat} (hk : k < rs.length) : (cnts rs).getD k Q4.nil = cq ((wds rs).getD k []) := by
  refine full_hom (d := Q4.nil) (F := cntF) (G := cntG) hwf cq (fun l hl => ?_) (fun u v r _ _ _ _ => ?_) k hk
  · match l, hl with
    | 0, _ => rfl
    | 1, _ => rfl
    | 2, _ => rfl
    | 3, _ => rfl
  · simp only [cntG, cq, cn_app]
theorem topQ_word {rs : List Fac} (hwf : WF rs) : topQ rs = cq (wdN rs) := by
  unfold topQ wdN
  by_cases h : rs = []
  · subst h; rfl
  · have h0 : rs.length ≠ 0 := fun e => h (List.eq_nil_of_length_eq_zero e)
    rw [if_neg h0, if_neg h, cnts_word hwf (by omega)]
section
variable {rs : List Fac} {ls : List Int}
theorem wds_kids (hwf : WF rs) {r : Nat} {x : Fac} (hx : rs[r]? = some x) (h : ((wds rs).getD r []).length ≠ 1 ∨ x.l.size = 0) :
    x.l.size = 0 ∧ x.a.toNat < r ∧ x.b.toNat < r ∧ (wds rs).getD r [] = (wds rs).getD x.a.toNat [] ++ (wds rs).getD x.b.toNat [] := by
  rcases hwf r x hx with ⟨h0, a0, a1, b0, b1⟩ | ⟨c, hc, hl, _, _⟩
  · exact ⟨h0, by omega, by omega, full_pair [] wdF wdG hwf hx h0⟩
  · exfalso
    have e2 := full_let (d := []) (F := wdF) (G := wdG) hx (by rw [hl]; show (1 : Nat) ≠ 0; omega)
    rcases h with h | h
    · apply h; unfold wds; rw [e2]; rfl
    · rw [hl] at h; exact absurd h (show ¬ (1 : Nat) = 0 by omega)
theorem rk_word (hls : gLens rs [] = some ls) {l : Nat} (hl : l < 4) : ∀ (f r : Nat) (m : Int), r < f → r < rs.length → rk (rkV rs l) ls rs f r m = cn l (((wds rs).getD r []).take m.toNat)
  | 0, _, _, h, _ => by omega
  | f + 1, r, m, _, hr => by
    have hwf := wf_of hls
    have hlen := lens_word hls hr
    rw [rk]
    by_cases h0 : m ≤ 0
    · rw [if_pos h0, show m.toNat = 0 by omega]; rfl
    rw [if_neg h0]
    by_cases h1 : ls.getD r 0 ≤ m
    · rw [if_pos h1, List.take_of_length_le (by omega)]
      unfold rkV
      rw [cnts_word hwf hr, cq_at _ hl]
    rw [if_neg h1]
    have hx : rs[r]? = some (rs[r]'hr) := List.getElem?_eq_getElem _
    rw [hx]
    obtain ⟨h2, ha, hb, e⟩ := wds_kids hwf hx (.inl (by omega))
    show rk (rkV rs l) ls rs f _ m + rk (rkV rs l) ls rs f _ _ = _
    rw [rk_word hls hl f _ m (by omega) (by omega), rk_word hls hl f _ _ (by omega) (by omega), e, List.take_append, cn_app, lens_word hls (by omega)]
    congr 2
    congr 1
    omega
theorem rkT_word (hls : gLens rs [] = some ls) {l : Nat} (hl : l < 4) (m : Int) : rkT (rkV rs l) ls rs m = cn l ((wdN rs).take m.toNat) := by
  unfold rkT
  by_cases h : rs = []
  · subst h; simp [wdN, cn]
  · have h0 : rs.length ≠ 0 := fun e => h (List.eq_nil_of_length_eq_zero e)
    rw [if_neg h0, rk_word hls hl _ _ _ (by omega) (by omega)]
    unfold wdN; rw [if_neg h]
theorem selGo_word (hls : gLens rs [] = some ls) {l : Nat} (hl : l < 4) : ∀ (f r : Nat) (k n : Int), r < f → r < rs.length → 0 ≤ k → k < cn l ((wds rs).getD r []) →
    ∃ j : Nat, selGo (cnts rs) ls rs l f r k n = n + j ∧ ((wds rs).getD r [])[j]? = some l ∧ cn l (((wds rs).getD r []).take j) = k
  | 0, _, _, _, h, _, _, _ => by omega
  | f + 1, r, k, n, _, hr, k0, k1 => by
    have hwf := wf_of hls
    have hx : rs[r]? = some (rs[r]'hr) := List.getElem?_eq_getElem _
    by_cases h0 : (rs[r]'hr).l.size = 0
    · obtain ⟨h2, ha, hb, e⟩ := wds_kids hwf hx (.inr h0)
      rw [selGo_step (by omega) hx h0, cnts_word hwf (by omega), cq_at _ hl, Nat.add_sub_cancel]
      rw [e, cn_app] at k1
      by_cases hlt : k < cn l ((wds rs).getD (rs[r]'hr).a.toNat [])
      · rw [if_pos hlt]
        obtain ⟨j, e1, e2, e3⟩ := selGo_word hls hl f (rs[r]'hr).a.toNat k n (by omega) (by omega) k0 hlt
        have hj := (List.getElem?_eq_some_iff.1 e2).1
        refine ⟨j, e1, ?_, ?_⟩
        · rw [e, List.getElem?_append_left hj]; exact e2
        · rw [e, List.take_append_of_le_length (by omega)]; exact e3
      · rw [if_neg hlt]
        obtain ⟨j, e1, e2, e3⟩ := selGo_word hls hl f (rs[r]'hr).b.toNat (k - cn l ((wds rs).getD (rs[r]'hr).a.toNat [])) (n + ls.getD (rs[r]'hr).a.toNat 0) (by omega) (by omega) (by omega) (by omega)
        have hlw := lens_word hls (show (rs[r]'hr).a.toNat < rs.length by omega)
        refine ⟨((wds rs).getD (rs[r]'hr).a.toNat []).length + j, by rw [e1, hlw]; omega, ?_, ?_⟩
        · rw [e, List.getElem?_append_right (by omega), Nat.add_sub_cancel_left]; exact e2
        · rw [e, List.take_append, List.take_of_length_le (by omega), cn_app, Nat.add_sub_cancel_left, e3]; omega
    · rw [selGo_stop (by omega) hx h0]
      have e2 := full_let (d := []) (F := wdF) (G := wdG) hx h0
      have e3 : (wds rs).getD r [] = [letN (rs[r]'hr).l] := e2
      rw [e3] at k1 ⊢
      rw [cn_cons, cn_nil] at k1
      by_cases hll : letN (rs[r]'hr).l = l
      · refine ⟨0, by omega, by rw [hll]; rfl, ?_⟩
        rw [if_pos hll] at k1
        show cn l [] = k
        rw [cn_nil]; omega
      · rw [if_neg hll] at k1; omega
theorem sel_word (hls : gLens rs [] = some ls) {l : Nat} (hl : l < 4) {k : Int} (k0 : 0 ≤ k) (k1 : k < cn l (wdN rs)) :
    ∃ j : Nat, selGo (cnts rs) ls rs l rs.length (rs.length - 1) k 0 = j ∧ (wdN rs)[j]? = some l ∧ cn l ((wdN rs).take j) = k := by
  by_cases h : rs = []
  · subst h; rw [show wdN [] = [] from rfl, cn_nil] at k1; omega
  · have h0 : 0 < rs.length := List.length_pos_iff.2 h
    have e : wdN rs = (wds rs).getD (rs.length - 1) [] := by unfold wdN; rw [if_neg h]
    rw [e] at k1 ⊢
    obtain ⟨j, e1, e2, e3⟩ := selGo_word hls hl rs.length (rs.length - 1) k 0 (by omega) (by omega) k0 k1
    exact ⟨j, by omega, e2, e3⟩
end
theorem use_goG {rs : List Fac} (hwf : WF rs) (c dl : Nat → Int) (hp : ∀ (i : Nat) (r : Fac), rs[i]? = some r → r.l.size = 0 → c i = c r.a.toNat + c r.b.toNat + dl i)
    (hl : ∀ (i : Nat) (r : Fac), rs[i]? = some r → r.l.size ≠ 0 → c i = dl i) (T : Int) :
    ∀ (m : Nat) (us : List Int), m ≤ rs.length → us.length = rs.length → sumTo (fun j => us.getD j 0 * c j) m + (sumTo (fun j => us.getD j 0 * dl j) rs.length - sumTo (fun j => us.getD j 0 * dl j) m) = T →
      sumTo (fun j => (useGo rs m us).getD j 0 * dl j) rs.length = T
  | 0, us, _, _, h => by
    have e1 : sumTo (fun j => us.getD j 0 * c j) 0 = 0 := rfl
    have e2 : sumTo (fun j => us.getD j 0 * dl j) 0 = 0 := rfl
    show sumTo (fun j => us.getD j 0 * dl j) rs.length = T
    omega
  | i + 1, us, hm, hlen, h => by
    have hr : rs[i]? = some rs[i] := List.getElem?_eq_getElem (by omega)
    have e1 : sumTo (fun j => us.getD j 0 * c j) (i + 1) = sumTo (fun j => us.getD j 0 * c j) i + us.getD i 0 * c i := rfl
    have e2 : sumTo (fun j => us.getD j 0 * dl j) (i + 1) = sumTo (fun j => us.getD j 0 * dl j) i + us.getD i 0 * dl i := rfl
    show sumTo (fun j => (useGo rs i (usStep rs us i)).getD j 0 * dl j) rs.length = T
    unfold usStep
    rw [fac_getD hr]
    rcases hwf i _ hr with ⟨h0, a0, a1, b0, b1⟩ | ⟨u, _, hlu, _, _⟩
    · rw [if_pos h0]
      have hc := hp i _ hr h0
      refine use_goG hwf c dl hp hl T i _ (by omega) (by rw [usePair_len]; exact hlen) ?_
      have hat := usePair_at (us := us) (a := rs[i].a.toNat) (b := rs[i].b.toNat) (i := i) (by omega) (by omega)
      have s1 : sumTo (fun j => (usePair us rs[i].a.toNat rs[i].b.toNat i).getD j 0 * c j) i = sumTo (fun j => us.getD j 0 * c j) i + us.getD i 0 * c rs[i].a.toNat + us.getD i 0 * c rs[i].b.toNat := by
        rw [sumTo_congr (g := fun j => (us.getD j 0 * c j + (if j = rs[i].a.toNat then us.getD i 0 else 0) * c j) + (if j = rs[i].b.toNat then us.getD i 0 else 0) * c j) (fun j _ => by rw [hat, Int.add_mul, Int.add_mul]), sumTo_add, sumTo_add, sum_one _ _ _ _ (by omega), sum_one _ _ _ _ (by omega)]
      have s2 : sumTo (fun j => (usePair us rs[i].a.toNat rs[i].b.toNat i).getD j 0 * dl j) rs.length - sumTo (fun j => (usePair us rs[i].a.toNat rs[i].b.toNat i).getD j 0 * dl j) i = sumTo (fun j => us.getD j 0 * dl j) rs.length - sumTo (fun j => us.getD j 0 * dl j) i :=
        sumTo_diff (by omega) (fun j h1 h2 => by rw [hat, if_neg (by omega), if_neg (by omega)]; simp)
      have s3 : us.getD i 0 * c i = us.getD i 0 * c rs[i].a.toNat + us.getD i 0 * c rs[i].b.toNat + us.getD i 0 * dl i := by rw [hc, Int.mul_add, Int.mul_add]
      omega
    · have hz : rs[i].l.size ≠ 0 := by rw [hlu]; show (1 : Nat) ≠ 0; omega
      rw [if_neg hz]
      have z1 := hl i _ hr hz
      refine use_goG hwf c dl hp hl T i us (by omega) hlen ?_
      rw [z1] at e1
      omega
theorem use_sumG {rs : List Fac} (hwf : WF rs) (h0 : 0 < rs.length) (c dl : Nat → Int) (hp : ∀ (i : Nat) (r : Fac), rs[i]? = some r → r.l.size = 0 → c i = c r.a.toNat + c r.b.toNat + dl i)
    (hl : ∀ (i : Nat) (r : Fac), rs[i]? = some r → r.l.size ≠ 0 → c i = dl i) : sumTo (fun j => (usesOf rs).getD j 0 * dl j) rs.length = c (rs.length - 1) := by
  refine use_goG hwf c dl hp hl _ rs.length (us0 rs.length) (Nat.le_refl _) (by simp [us0]) ?_
  have e : sumTo (fun j => (us0 rs.length).getD j 0 * c j) rs.length = c (rs.length - 1) := by
    rw [sumTo_congr (g := fun j => (if j = rs.length - 1 then 1 else 0) * c j) (fun j _ => by rw [use0_at _ _ h0]), sum_one _ _ _ _ (by omega)]
    simp
  omega
/-- whether a rule is some letter -/
def lcD (rs : List Fac) (l j : Nat) : Int := if (rs.getD j default).l.size = 0 then 0 else if letN (rs.getD j default).l = l then 1 else 0
/-- the counts over the first rules -/
def lcL (rs : List Fac) (i : Nat) : List Int := (List.range 4).map fun l => sumTo (fun j => (usesOf rs).getD j 0 * lcD rs l j) i
theorem lcL_all {rs : List Fac} (hwf : WF rs) : lcL rs rs.length = (List.range 4).map fun l => cn l (wdN rs) := by
  unfold lcL
  refine List.map_congr_left fun l _ => ?_
  unfold wdN
  by_cases h : rs = []
  · subst h; rfl
  · have h0 : 0 < rs.length := List.length_pos_iff.2 h
    rw [if_neg h]
    refine use_sumG hwf h0 (fun j => cn l ((wds rs).getD j [])) (lcD rs l) (fun i r hr hz => ?_) (fun i r hr hz => ?_)
    · unfold lcD
      rw [fac_getD hr, if_pos hz, show (wds rs).getD i [] = (wds rs).getD r.a.toNat [] ++ (wds rs).getD r.b.toNat [] from full_pair [] wdF wdG hwf hr hz, cn_app]; omega
    · unfold lcD
      rw [fac_getD hr, if_neg hz, show (wds rs).getD i [] = [letN r.l] from full_let (d := []) (F := wdF) (G := wdG) hr hz, cn_cons, cn_nil]; omega
end Go.Proofs.Ytajfjgemfnfakaa


/-
  Grammars joined, turned and repeated: the plain part.
-/
namespace Go.Proofs.Ytajfjgemfnfakaa

theorem wdN_pos {rs : List Fac} (h : 0 < rs.length) : wdN rs = (wds rs).getD (rs.length - 1) [] := by
  unfold wdN
  rw [if_neg (by intro e; rw [e] at h; simp at h)]
def joinL (gs hs : List Fac) : List Fac :=
  if gs.length = 0 then hs else if hs.length = 0 then gs else (gs ++ raiseL gs.length hs) ++ [⟨⟨#[]⟩, (gs.length : Int) - 1, (gs.length : Int) + hs.length - 1⟩]
theorem join_wf {gs hs : List Fac} (hg : WF gs) (hh : WF hs) : WF (joinL gs hs) := by
  unfold joinL
  split
  · exact hh
  · split
    · exact hg
    · exact wf_snoc (wf_raise hg hh) ⟨by omega, by simp only [List.length_append, raiseL_len]; omega⟩ ⟨by omega, by simp only [List.length_append, raiseL_len]; omega⟩
theorem join_word {gs hs : List Fac} (hg : WF gs) (hh : WF hs) : wdN (joinL gs hs) = wdN gs ++ wdN hs := by
  unfold joinL
  split
  · rename_i h
    have : gs = [] := List.eq_nil_of_length_eq_zero h
    subst this; rfl
  · rename_i h0
    split
    · rename_i h
      have : hs = [] := List.eq_nil_of_length_eq_zero h
      subst this
      rw [show wdN [] = [] from rfl, List.append_nil]
    · rename_i h1
      have hw := wf_raise hg hh
      have hl : (gs ++ raiseL gs.length hs).length = gs.length + hs.length := by simp [raiseL_len]
      have e := wds_snoc (rs := gs ++ raiseL gs.length hs) (a := (gs.length : Int) - 1) (b := (gs.length : Int) + hs.length - 1) ⟨by omega, by rw [hl]; omega⟩ ⟨by omega, by rw [hl]; omega⟩ hw
      rw [wdN_pos (by simp only [List.length_append, List.length_singleton]; omega), List.length_append, List.length_singleton, Nat.add_sub_cancel, e, wdN_pos (by omega), wdN_pos (by omega)]
      rw [show ((gs.length : Int) - 1).toNat = gs.length - 1 by omega, show ((gs.length : Int) + hs.length - 1).toNat = gs.length + (hs.length - 1) by omega, wds_pre _ _ (by omega), wds_raise hg hh _ (by omega)]
/-- turned -/
def turnL (rs : List Fac) : List Fac := rs.map fun r => ⟨r.l, r.b, r.a⟩
theorem turn_len (rs : List Fac) : (turnL rs).length = rs.length := by simp [turnL]
theorem turn_at {rs : List Fac} {k : Nat} {r : Fac} (h : rs[k]? = some r) : (turnL rs)[k]? = some ⟨r.l, r.b, r.a⟩ := by unfold turnL; rw [List.getElem?_map, h]; rfl
theorem turn_wf {rs : List Fac} (hwf : WF rs) : WF (turnL rs) := fun k r hr => by
  unfold turnL at hr
  rw [List.getElem?_map] at hr
  obtain ⟨x, hx, rfl⟩ := Option.map_eq_some_iff.1 hr
  rcases hwf k x hx with ⟨h0, a0, a1, b0, b1⟩ | ⟨c, hc, hl, ha, hb⟩
  · exact .inl ⟨h0, b0, b1, a0, a1⟩
  · exact .inr ⟨c, hc, hl, hb, ha⟩
theorem turn_wds {rs : List Fac} (hwf : WF rs) : ∀ k, k < rs.length → (wds (turnL rs)).getD k [] = ((wds rs).getD k []).reverse := by
  intro k
  induction k using Nat.strongRecOn with
  | ind k ih =>
    intro hk
    have hr : rs[k]? = some rs[k] := List.getElem?_eq_getElem hk
    have ht := turn_at hr
    rcases hwf k _ hr with ⟨h0, a0, a1, b0, b1⟩ | ⟨c, hc, hl, ha, hb⟩
    · rw [wds_pair (turn_wf hwf) ht h0, wds_pair hwf hr h0, List.reverse_append]
      simp only
      rw [ih _ (by omega) (by omega), ih _ (by omega) (by omega)]
    · rw [wds_one ht hl, wds_one hr hl]; rfl
theorem turn_word {rs : List Fac} (hwf : WF rs) : wdN (turnL rs) = (wdN rs).reverse := by
  by_cases h : rs.length = 0
  · have : rs = [] := List.eq_nil_of_length_eq_zero h
    subst this; rfl
  · rw [wdN_pos (by rw [turn_len]; omega), wdN_pos (by omega), turn_len, turn_wds hwf _ (by omega)]
/-- one digit more of the number of times -/
def powS (root : Int) (rs : List Fac) (b : Bool) : List Fac :=
  if b then (rs ++ [⟨⟨#[]⟩, (rs.length : Int) - 1, (rs.length : Int) - 1⟩]) ++ [⟨⟨#[]⟩, (rs.length : Int), root⟩] else rs ++ [⟨⟨#[]⟩, (rs.length : Int) - 1, (rs.length : Int) - 1⟩]
def rep (u : List Nat) : Nat → List Nat
  | 0 => []
  | n + 1 => rep u n ++ u
theorem rep_add (u : List Nat) (m : Nat) : ∀ n, rep u (m + n) = rep u m ++ rep u n
  | 0 => by simp [rep]
  | n + 1 => by
    show rep u (m + n) ++ u = rep u m ++ (rep u n ++ u)
    rw [rep_add u m n, List.append_assoc]
theorem rep_len (u : List Nat) : ∀ n, (rep u n).length = n * u.length
  | 0 => by simp [rep]
  | n + 1 => by show (rep u n ++ u).length = _; rw [List.length_append, rep_len u n, Nat.succ_mul]
/-- what holds under way: n times the word -/
structure PowI (gs rs : List Fac) (n : Nat) : Prop where
  wf : WF rs
  pre : ∃ e, rs = gs ++ e
  pos : 0 < gs.length
  w : wdN rs = rep (wdN gs) n
theorem PowI.first {gs : List Fac} (hg : WF gs) (h0 : 0 < gs.length) : PowI gs gs 1 := ⟨hg, ⟨[], by simp⟩, h0, by simp [rep]⟩
theorem PowI.step {gs rs : List Fac} {n : Nat} (h : PowI gs rs n) (b : Bool) : PowI gs (powS ((gs.length : Int) - 1) rs b) (2 * n + b.toNat) := by
  obtain ⟨e, he⟩ := h.pre
  have hp := h.pos
  have hl : gs.length ≤ rs.length := by rw [he, List.length_append]; omega
  have ha : 0 ≤ (rs.length : Int) - 1 ∧ (rs.length : Int) - 1 < rs.length := ⟨by omega, by omega⟩
  have w1 := wf_snoc h.wf ha ha
  have e1 := wds_snoc (rs := rs) ha ha h.wf
  have hlast : (wds rs).getD ((rs.length : Int) - 1).toNat [] = rep (wdN gs) n := by rw [← h.w, wdN_pos (by omega), show ((rs.length : Int) - 1).toNat = rs.length - 1 by omega]
  rw [hlast, ← rep_add, show n + n = 2 * n by omega] at e1
  cases b with
  | false =>
    refine ⟨w1, ⟨e ++ [⟨⟨#[]⟩, (rs.length : Int) - 1, (rs.length : Int) - 1⟩], by show rs ++ _ = _; rw [he, List.append_assoc]⟩, hp, ?_⟩
    show wdN (rs ++ [_]) = _
    rw [wdN_pos (by simp), List.length_append, List.length_singleton, Nat.add_sub_cancel, e1]; rfl
  | true =>
    have hl2 : (rs ++ [(⟨⟨#[]⟩, (rs.length : Int) - 1, (rs.length : Int) - 1⟩ : Fac)]).length = rs.length + 1 := by simp
    have hb1 : 0 ≤ (rs.length : Int) ∧ (rs.length : Int) < (rs ++ [(⟨⟨#[]⟩, (rs.length : Int) - 1, (rs.length : Int) - 1⟩ : Fac)]).length := ⟨by omega, by rw [hl2]; omega⟩
    have hb2 : 0 ≤ (gs.length : Int) - 1 ∧ (gs.length : Int) - 1 < (rs ++ [(⟨⟨#[]⟩, (rs.length : Int) - 1, (rs.length : Int) - 1⟩ : Fac)]).length := ⟨by omega, by rw [hl2]; omega⟩
    refine ⟨wf_snoc w1 hb1 hb2, ⟨e ++ [⟨⟨#[]⟩, (rs.length : Int) - 1, (rs.length : Int) - 1⟩] ++ [⟨⟨#[]⟩, (rs.length : Int), (gs.length : Int) - 1⟩], by show (rs ++ _) ++ _ = _; rw [he]; simp only [List.append_assoc]⟩, hp, ?_⟩
    have e2 := wds_snoc (rs := rs ++ [(⟨⟨#[]⟩, (rs.length : Int) - 1, (rs.length : Int) - 1⟩ : Fac)]) hb1 hb2 w1
    show wdN ((rs ++ [_]) ++ [_]) = _
    rw [wdN_pos (by simp), List.length_append, List.length_singleton, Nat.add_sub_cancel, e2, Int.toNat_natCast, e1]
    have e3 : (wds (rs ++ [(⟨⟨#[]⟩, (rs.length : Int) - 1, (rs.length : Int) - 1⟩ : Fac)])).getD ((gs.length : Int) - 1).toNat [] = wdN gs := by
      rw [wds_pre _ _ (by omega), he, wds_pre _ _ (by omega), wdN_pos hp, show ((gs.length : Int) - 1).toNat = gs.length - 1 by omega]
    rw [e3]; rfl
end Go.Proofs.Ytajfjgemfnfakaa


/-
  The power of a grammar in the reference: what it hands back is valid.
-/
namespace Go.Proofs.Ytajfjgemfnfakaa
open Go.RowKit

/-- a grammar that is right and has rules, in memory of its own -/
structure GrIn (w : World) (B : Nat) (A : Option Addr) (c : Nat) (rs : List Fac) : Prop where
  wf : WF rs
  pos : 0 < rs.length
  ok : (gOk rs).isSome = true
  own : w.ownsRow B 59 3 (.slice A rs.length c) rs.length (rs.flatMap Fac.cells)
/-- such a one and the code 0, or none and the code 3 -/
def GrCode (w : World) (e : Ending) (w' : World) : Prop :=
  (∃ A c rs, e = .returned (.tuple #[.agg #[.slice A rs.length c], .int .i64 0]) ∧ GrIn w' w.heap.size A c rs ∧ Below w.heap.size w w') ∨
  (e = .returned (.tuple #[.agg #[.slice none 0 0], .int .i64 3]) ∧ Below w.heap.size w w')
/-- a grammar under way: R is the result's block, G the grammar's -/
structure PwW (w W : World) (R G : Nat) (A : Option Addr) (n c : Nat) (rs : List Fac) : Prop where
  q : W.ownsRow w.heap.size 59 3 (.slice A n c) n (rs.flatMap Fac.cells)
  r : Blk W R 26 #[.slice none 0 0]
  x : Blk W G 26 #[.slice A n c]
  e : Below w.heap.size w W
  hr : w.heap.size ≤ R
  hg : R < G
section
variable {w W W' : World} {R G : Nat} {A : Option Addr} {n c : Nat} {rs : List Fac}
theorem PwW.next (h : PwW w W R G A n c rs) (hb : Below W.heap.size W W') : PwW w W' R G A n c rs := ⟨own_next h.q hb, h.r.next hb, h.x.next hb, h.e.trans (hb.mono h.e.size), h.hr, h.hg⟩
theorem PwW.alloc (h : PwW w W R G A n c rs) (o : Obj) : PwW w (W.alloc o) R G A n c rs := h.next ((Below.refl _ _).alloc (Nat.le_refl _) _)
theorem PwW.drew (h : PwW w W R G A n c rs) : PwW w W.drew R G A n c rs := h.next (Below.refl _ _).drew
theorem PwW.app {A' : Option Addr} {n' c' : Nat} {rs' : List Fac} (h : PwW w W R G A n c rs) (hq : W'.ownsRow w.heap.size 59 3 (.slice A' n' c') n' (rs'.flatMap Fac.cells)) (hg : W.grownBy W' (Value.slice A n c).ownBlock) :
    W'.ownsRow w.heap.size 59 3 (.slice A' n' c') n' (rs'.flatMap Fac.cells) ∧ Blk W' R 26 #[.slice none 0 0] ∧ Blk W' G 26 #[.slice A n c] ∧ Below w.heap.size w W' :=
  ⟨hq, h.r.grown hg (own_blk_ne h.q h.r (by decide)), h.x.grown hg (own_blk_ne h.q h.x (by decide)), h.e.grown hg h.e.size (own_ge h.q)⟩
theorem PwW.push {A' : Option Addr} {n' c' : Nat} {rs' : List Fac} (h : PwW w W R G A n c rs) (hq : W'.ownsRow w.heap.size 59 3 (.slice A' n' c') n' (rs'.flatMap Fac.cells)) (hg : W.grownBy W' (Value.slice A n c).ownBlock) :
    PwW w (W'.setCell ⟨G, 0, none⟩ (.slice A' n' c')) R G A' n' c' rs' := by
  obtain ⟨h1, h2, h3, h4⟩ := h.app hq hg
  have hg2 := gb_set W' G 0 (.slice A' n' c')
  have h0 := h.hg; have h00 := h.hr
  exact ⟨own_kept' hq h3 (by decide) _, h2.grown hg2 (by intro e; injection e with e; omega), h3.set_ 0 _, h4.setCell (by show w.heap.size ≤ G; omega) _, h00, h0⟩
end
theorem shr_pos {t : Int} {d : Nat} (h0 : 1 ≤ t) (h1 : t ≤ 1000000000000000) (h : 0 < t / 2 ^ d) : d < 50 := by
  rcases Nat.lt_or_ge d 50 with h2 | h2
  · exact h2
  · exfalso
    have h3 : (2 : Int) ^ 50 ≤ 2 ^ d := by have := Int.ofNat_le.2 (Nat.pow_le_pow_right (show 2 > 0 by decide) h2); rwa [Int.natCast_pow, Int.natCast_pow] at this
    have h4 : (2 : Int) ^ 50 = 1125899906842624 := by decide
    have : t / 2 ^ d = 0 := Int.ediv_eq_zero_of_lt (by omega) (by omega)
    omega
set_option maxHeartbeats 4000000 in
set_option maxRecDepth 100000 in
theorem powerG_any (A : Option Addr) (n c : Nat) (gs : List Fac) (t : Int) (w : World) (hn0 : 0 < n) (hn : n ≤ 400) (hr : Rd w w.heap.size A n 3 Fac.cells gs) (hwf : WF gs) (hg : (gOk gs).isSome = true) (ht0 : 1 ≤ t) (ht1 : t ≤ 1000000000000000) :
    Calls Try.prog 42 #[.agg #[.slice A n c], .int .i64 t] w (GrCode w) := by
  have hl := hr.len
  have HR := Lib.hid hr; clear hr
  have HG := Lib.hid hg; clear hg
  have HW := Lib.hid hwf; clear hwf
  have HO := Lib.hid (wf_sz HW.out)
  have hin : inB t 0 1000000000000000 = true := by unfold inB; simp; omega
  have Hin := Lib.hid hin; clear hin
  have HL := Lib.hid hl; clear hl
  go_enter Try.func42, Try.ntmps42
  go_wp2_with fail
  refine namedC fun w1 H1 => ?_
  have hb1 : Below w.heap.size w w1 := by rw [H1.out]; (repeat first | exact Below.refl _ _ | assumption | refine Below.drew ?_ | refine Below.alloc ?_ (by first | exact Nat.le_refl _ | (simp; done) | omega | (simp; omega)) _ | refine Below.setCell ?_ (by first | exact Nat.le_refl _ | (simp; done) | omega | (simp; omega)) _)
  have BG := Lib.hid (show Blk w1 w.heap.size 26 #[.slice A n c] by rw [H1.out]; exact (Blk.new _ _ _).alloc _)
  have BR := Lib.hid (show Blk w1 (w.heap.size + 1) 26 #[.slice none 0 0] by rw [H1.out]; simpa using Blk.new (w.alloc (.cells #[.slice A n c] 26)) 26 #[.slice none 0 0])
  clear H1
  refine (l02Ok_any w.heap.size A n c gs w1 BG.out.lt (BG.out.cell 0) (by omega) (HR.out.next hb1) HO.out true HG.out).mono ?_
  rintro e w2 ⟨rfl, hb2⟩
  have b2 := Lib.hid (hb1.trans (hb2.mono hb1.size))
  have BG2 := Lib.hid (BG.out.next hb2)
  have BR2 := Lib.hid (BR.out.next hb2)
  clear BG BR hb1 hb2
  go_wp2_with fail
  refine (specIn_any t 0 1000000000000000 true w2 Hin.out).mono ?_
  rintro e w3 ⟨rfl, hb3⟩
  have b3 := Lib.hid (b2.out.trans (hb3.mono b2.out.size))
  have BG3 := Lib.hid (BG2.out.next hb3)
  have BR3 := Lib.hid (BR2.out.next hb3)
  have g3 := BG3.out.cell 0
  have l3 := BG3.out.lt
  have n1 : ((n : Int) == 0) = false := by simp; omega
  have t1 : (t == 0) = false := by simp; omega
  clear BG2 BR2 hb3 b2
  go_wp2_with fail
  refine (l02Own_any w.heap.size A n c gs w3 l3 g3 (by omega) hn0 (HR.out.next b3.out)).mono ?_
  rintro e w4 ⟨A4, c4, rfl, own4, hb4⟩
  rw [HL.out] at own4 ⊢
  have b4 := Lib.hid (b3.out.trans (hb4.mono b3.out.size))
  have O4 := Lib.hid (own4.mono b3.out.size)
  have BG4 := Lib.hid (BG3.out.next hb4)
  have BR4 := Lib.hid (BR3.out.next hb4)
  clear own4 hb4 b3 BG3 BR3 g3 l3
  have P5 := Lib.hid (show PwW w (w4.alloc (.cells #[.slice A4 n c4] 26)) (w.heap.size + 1) w4.heap.size A4 n c4 gs from
    ⟨O4.out.alloc _, BR4.out.alloc _, Blk.new _ _ _, b4.out.alloc b4.out.size _, by omega, BR4.out.lt⟩)
  have BG5 := BG4.out.alloc (.cells #[.slice A4 n c4] 26)
  have g5 := BG5.cell 0
  have l5 := BG5.lt
  clear BG5
  go_wp2_with fail
  go_loopw [8] (fun d_ w' => ∃ d : Nat, d_ = .int .i64 d ∧ d ≤ 50 ∧ Hid (PwW w w' (w.heap.size + 1) w4.heap.size A4 n c4 gs)) (fun d_ _ => 50 - (intOf d_).toNat)
  case atStart => exact ⟨0, rfl, by omega, P5⟩
  case round =>
    obtain ⟨d, rfl, hd, P⟩ := hrel
    clear P5 g5 l5
    by_cases hpos : 0 < t / 2 ^ d
    · have hd5 := shr_pos ht0 ht1 hpos
      have um : IntKind.i64.wrap ((d : Int) + 1) = ((d + 1 : Nat) : Int) := by rw [IntWalk.i64_in _ (by omega)]; omega
      go_wp2_with fail
      go_roundw
      case rel => exact ⟨d + 1, by go_num, by omega, P⟩
      case measure => simp [intOf]; omega
    · have um : IntKind.i64.wrap ((d : Int) - 2) = (d : Int) - 2 := by rw [IntWalk.i64_in _ (by omega)]
      go_wp2_with fail
      generalize w4.heap.size = G at *
      go_loopw [9] (fun k_ w' => ∃ (k : Int) (A : Option Addr) (n' c' : Nat) (cur : List Fac), k_ = .int .i64 k ∧ -2 ≤ k ∧ k ≤ 48 ∧ n ≤ n' ∧ (n' : Int) ≤ n + 2 * (48 - k) ∧ Hid (cur.length = n') ∧ Hid (WF cur) ∧ Hid (PwW w w' (w.heap.size + 1) G A n' c' cur)) (fun k_ _ => (intOf k_ + 1).toNat)
      case atStart => exact ⟨(d : Int) - 2, A4, n, c4, gs, rfl, by omega, by omega, by omega, by omega, HL, HW, P⟩
      case round =>
        obtain ⟨k, A9, n', c', cur, rfl, hk0, hk1, hn1, hn2, hcl, hcw, Q⟩ := hrel
        clear P
        have d0 := Q.out.x.cell 0
        have dl := Q.out.x.lt
        by_cases hk : 0 ≤ k
        · have k1 := decide_eq_true hk
          have kk : ((k.toNat : Nat) : Int) = k := by omega
          have ua : IntKind.i64.wrap ((n' : Int) - 1) = (n' : Int) - 1 := by rw [IntWalk.i64_in _ (by omega)]
          have uk : IntKind.i64.wrap (k - 1) = k - 1 := by rw [IntWalk.i64_in _ (by omega)]
          have Q3 := Lib.hid (Q.out.alloc (.cells #[.string ⟨#[]⟩, .int .i64 ((n' : Int) - 1), .int .i64 ((n' : Int) - 1)] 59))
          have BN := Lib.hid (Blk.new wr 59 #[.string ⟨#[]⟩, .int .i64 ((n' : Int) - 1), .int .i64 ((n' : Int) - 1)])
          have w1 := Lib.hid (wf_snoc hcw.out (a := (n' : Int) - 1) (b := (n' : Int) - 1) ⟨by omega, by rw [hcl.out]; omega⟩ ⟨by omega, by rw [hcl.out]; omega⟩)
          have e1 := Lib.hid (show (cur ++ [(⟨⟨#[]⟩, (n' : Int) - 1, (n' : Int) - 1⟩ : Fac)]).length = n' + 1 by rw [List.length_append, hcl.out]; rfl)
          have ub : IntKind.i64.wrap ((n' : Int) - 1 + 1) = (n' : Int) := by rw [IntWalk.i64_in _ (by omega)]; omega
          rcases hbt : (bits BinOp.and IntKind.i64 (t / 2 ^ k.toNat) 1 == 1) with _ | _
          · go_wp2_with
              (at_builtin
               refine wpList_pushG rfl _ _ _ rfl w.heap.size 59 3 32 elem_rule Fac.cells A9 n' c' cur rfl Q3.out.q wr.heap.size ⟨⟨#[]⟩, (n' : Int) - 1, (n' : Int) - 1⟩ #[.string ⟨#[]⟩, .int .i64 ((n' : Int) - 1), .int .i64 ((n' : Int) - 1)] 59 (0, 0) rfl BN.out rfl rfl (one_fac _) (by omega) (by omega) (by unfold maxLen; omega) (by have := Q3.out.e.size; omega) ?_
               intro A8 c8 w8 own8 hg8 hat8
               have Q8 := Lib.hid (Q3.out.push own8 hg8)
               have G8 := (Q3.out.app own8 hg8).2.2.1
               have f8 := G8.frozen
               have d8 := G8.cell 0
               have l8 := G8.lt
               clear own8 hg8 hat8 G8)
            go_roundw
            case rel => exact ⟨k - 1, A8, n' + 1, c8, _, by go_num, by omega, by omega, by omega, by omega, e1, w1, Q8⟩
            case measure => simp [intOf]; omega
          · have w2 := Lib.hid (wf_snoc w1.out (a := (n' : Int)) (b := (n : Int) - 1) ⟨by omega, by rw [e1.out]; omega⟩ ⟨by omega, by rw [e1.out]; omega⟩)
            have e2 := Lib.hid (show ((cur ++ [(⟨⟨#[]⟩, (n' : Int) - 1, (n' : Int) - 1⟩ : Fac)]) ++ [(⟨⟨#[]⟩, (n' : Int), (n : Int) - 1⟩ : Fac)]).length = n' + 2 by rw [List.length_append, e1.out]; rfl)
            go_wp2_with
              (at_builtin
               first
                 | (refine wpList_pushG rfl _ _ _ rfl w.heap.size 59 3 32 elem_rule Fac.cells A9 n' c' cur rfl Q3.out.q wr.heap.size ⟨⟨#[]⟩, (n' : Int) - 1, (n' : Int) - 1⟩ #[.string ⟨#[]⟩, .int .i64 ((n' : Int) - 1), .int .i64 ((n' : Int) - 1)] 59 (0, 0) rfl BN.out rfl rfl (one_fac _) (by omega) (by omega) (by unfold maxLen; omega) (by have := Q3.out.e.size; omega) ?_
                    intro A8 c8 w8 own8 hg8 hat8
                    have Q8 := Lib.hid (Q3.out.push own8 hg8)
                    have G8 := (Q3.out.app own8 hg8).2.2.1
                    have f8 := G8.frozen
                    have d8 := G8.cell 0
                    have l8 := G8.lt
                    clear own8 hg8 hat8 G8)
                 | (refine wpList_pushG rfl _ _ _ rfl w.heap.size 59 3 32 elem_rule Fac.cells A8 (n' + 1) c8 (cur ++ [⟨⟨#[]⟩, (n' : Int) - 1, (n' : Int) - 1⟩]) rfl ((Q8.out.alloc (.cells #[.string ⟨#[]⟩, .int .i64 (n' : Int), .int .i64 ((n : Int) - 1)] 59)).q) w8.heap.size ⟨⟨#[]⟩, (n' : Int), (n : Int) - 1⟩ #[.string ⟨#[]⟩, .int .i64 (n' : Int), .int .i64 ((n : Int) - 1)] 59 (0, 0) rfl (by have h := Blk.new (w8.setCell ⟨G, 0, none⟩ (.slice A8 (n' + 1) c8)) 59 #[.string ⟨#[]⟩, .int .i64 (n' : Int), .int .i64 ((n : Int) - 1)]; rw [show (w8.setCell ⟨G, 0, none⟩ (.slice A8 (n' + 1) c8)).heap.size = w8.heap.size by simp] at h; exact h) rfl rfl (one_fac _) (by omega) (by omega) (by unfold maxLen; omega) (by have := (Q8.out.alloc (.cells #[.string ⟨#[]⟩, .int .i64 (n' : Int), .int .i64 ((n : Int) - 1)] 59)).e.size; omega) ?_
                    intro A7 c7 w7 own7 hg7 hat7
                    have Q7 := Lib.hid ((Q8.out.alloc (.cells #[.string ⟨#[]⟩, .int .i64 (n' : Int), .int .i64 ((n : Int) - 1)] 59)).push own7 hg7)
                    have G7 := ((Q8.out.alloc (.cells #[.string ⟨#[]⟩, .int .i64 (n' : Int), .int .i64 ((n : Int) - 1)] 59)).app own7 hg7).2.2.1
                    have f7 := G7.frozen
                    have d7 := G7.cell 0
                    have l7 := G7.lt
                    clear own7 hg7 hat7 G7))
            go_roundw
            case rel => exact ⟨k - 1, A7, n' + 2, c7, _, by go_num, by omega, by omega, by omega, by omega, e2, w2, Q7⟩
            case measure => simp [intOf]; omega
        · have k1 := decide_eq_false hk
          have T := Lib.hid (wf_sz hcw.out)
          have RR := Lib.hid (Rd.of_own (fun x _ => fac_len x) hcl.out Q.out.q)
          rcases hok : (gOk cur).isSome with _ | _
          · have Hok := Lib.hid hok; clear hok
            go_wp2_with fail
            refine (l02Told_no A9 n' c' cur wr (by omega) RR.out T.out Hok.out).mono ?_
            rintro e w7 ⟨rfl, hb7⟩
            have Q7 := Lib.hid (Q.out.next hb7)
            have r7 := Q7.out.r.cell 0
            have f7 := Q7.out.r.frozen
            have l7 := Q7.out.r.lt
            have B8 := Q7.out.r.set_ 0 (.slice none 0 0)
            have x8 : (w7.setCell ⟨w.heap.size + 1, 0, none⟩ (.slice none 0 0)).cell? ⟨w.heap.size + 1, 0, none⟩ = some (.slice none 0 0) := by rw [B8.cell 0]; rfl
            have b8 := Q7.out.e.setCell (p := ⟨w.heap.size + 1, 0, none⟩) (by simp) (.slice none 0 0)
            clear B8 d0 dl
            go_wp2_with fail
            exact bodyPost_ret (v := .tuple #[.agg #[.slice none 0 0], .int .i64 3]) (by simp [results, Try.results42, go_sem, x8]) rfl (.inr ⟨rfl, b8⟩)
          · have Hok := Lib.hid hok; clear hok
            go_wp2_with fail
            refine (l02Told_yes A9 n' c' cur wr (by omega) RR.out T.out Hok.out).mono ?_
            rintro e w7 ⟨rfl, hb7⟩
            have Q7 := Lib.hid (Q.out.next hb7)
            have r7 := Q7.out.r.cell 0
            have f7 := Q7.out.r.frozen
            have l7 := Q7.out.r.lt
            have B8 := Q7.out.r.set_ 0 (.slice A9 n' c')
            have x8 : (w7.setCell ⟨w.heap.size + 1, 0, none⟩ (.slice A9 n' c')).cell? ⟨w.heap.size + 1, 0, none⟩ = some (.slice A9 n' c') := by rw [B8.cell 0]; rfl
            have b8 := Q7.out.e.setCell (p := ⟨w.heap.size + 1, 0, none⟩) (by simp) (.slice A9 n' c')
            have O8 := Lib.hid (own_kept' (i := 0) Q7.out.q Q7.out.r (by decide) (.slice A9 n' c'))
            have hcl' := hcl.out
            subst hcl'
            clear B8 d0 dl
            go_wp2_with fail
            exact bodyPost_ret (v := .tuple #[.agg #[.slice A9 cur.length c'], .int .i64 0]) (by simp [results, Try.results42, go_sem, x8]) rfl (.inl ⟨A9, c', cur, rfl, ⟨hcw.out, by omega, Hok.out, O8.out⟩, b8⟩)
end Go.Proofs.Ytajfjgemfnfakaa


/-
  The letters of a grammar replaced: the small functions.
-/
namespace Go.Proofs.Ytajfjgemfnfakaa
open Go.RowKit

set_option maxHeartbeats 1000000 in
theorem l02Raised_any (x : Fac) (by_ : Int) (w : World) (hx : x.l.size = 0 → 0 ≤ x.a ∧ x.a ≤ 1048576 ∧ 0 ≤ x.b ∧ x.b ≤ 1048576) (h0 : 0 ≤ by_) (h1 : by_ ≤ 1048576) :
    Calls Try.prog 72 #[x.val, .int .i64 by_] w (Ret (rsF by_ x).val w) := by
  unfold Fac.val
  by_cases h : x.l.size = 0
  · have Hy := Lib.hid (show rsF by_ x = ⟨x.l, x.a + by_, x.b + by_⟩ by unfold rsF; rw [if_pos h])
    have e0 := size0 h
    obtain ⟨q0, q1, q2, q3⟩ := hx h
    rw [Hy.out]
    clear hx h
    go_enter Try.func72, Try.ntmps72
    go_wp2_with fail
    refine bodyPost_ret (v := .agg #[.string x.l, .int .i64 (x.a + by_), .int .i64 (x.b + by_)]) (by simp [results, Try.results72, go_sem]) rfl ⟨rfl, ?_⟩
    (repeat first | exact Below.refl _ _ | assumption | refine Below.drew ?_ | refine Below.alloc ?_ (by first | exact Nat.le_refl _ | (simp; done) | omega | (simp; omega)) _ | refine Below.setCell ?_ (by first | exact Nat.le_refl _ | (simp; done) | omega | (simp; omega)) _)
  · have Hy := Lib.hid (show rsF by_ x = x by unfold rsF; rw [if_neg h])
    have e0 := size1 h
    have e1 := size1' h
    rw [Hy.out]
    clear hx h
    go_enter Try.func72, Try.ntmps72
    go_wp2_with fail
    refine bodyPost_ret (v := .agg #[.string x.l, .int .i64 x.a, .int .i64 x.b]) (by simp [results, Try.results72, go_sem]) rfl ⟨rfl, ?_⟩
    (repeat first | exact Below.refl _ _ | assumption | refine Below.drew ?_ | refine Below.alloc ?_ (by first | exact Nat.le_refl _ | (simp; done) | omega | (simp; omega)) _ | refine Below.setCell ?_ (by first | exact Nat.le_refl _ | (simp; done) | omega | (simp; omega)) _)
theorem ixR_ge (f : Fac) : ∀ (rs : List Fac) (i : Int), 0 ≤ i → decide (0 ≤ ixR f rs i) = decide (f ∈ rs)
  | [], i, _ => by simp [ixR]
  | x :: r, i, h => by
    unfold ixR
    by_cases hx : f = x
    · simp [hx, h]
    · rw [if_neg hx, ixR_ge f r (i + 1) (by omega)]; simp [hx]
end Go.Proofs.Ytajfjgemfnfakaa
