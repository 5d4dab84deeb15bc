/-
  Texts of this claim, merged: Use Letg UseI FoldE Pairs PairsI PairsS Runs WdU CtM TrimM Stop RuleP RuleK.
-/
import Derived.Test.YtecnkmndmnefdaaP1
import Derived.Deep.RegionLaw
import Derived.Maps.OwnOps


/-
  How often each rule is met: the plain part.
-/
namespace Go.Proofs.Ytecnkmndmnefdaa

def sumTo (f : Nat → Int) : Nat → Int
  | 0 => 0
  | i + 1 => sumTo f i + f i
theorem sumTo_congr {f g : Nat → Int} : ∀ {i : Nat}, (∀ j, j < i → f j = g j) → sumTo f i = sumTo g i
  | 0, _ => rfl
  | i + 1, h => by
    show sumTo f i + f i = sumTo g i + g i
    rw [sumTo_congr (fun j hj => h j (by omega)), h i (by omega)]
theorem sumTo_upd {f g : Nat → Int} (a : Nat) : ∀ {i : Nat}, a < i → (∀ j, j < i → j ≠ a → f j = g j) → sumTo f i = sumTo g i + (f a - g a)
  | 0, h, _ => absurd h (by omega)
  | i + 1, h, hj => by
    show sumTo f i + f i = sumTo g i + g i + (f a - g a)
    by_cases he : a = i
    · subst he
      rw [sumTo_congr (i := a) (fun j h' => hj j (by omega) (by omega))]
      omega
    · rw [sumTo_upd a (i := i) (by omega) (fun j h1 h2 => hj j (by omega) h2), hj i (by omega) (fun e => he e.symm)]
      omega
theorem sumTo_diff {f g : Nat → Int} {i : Nat} : ∀ {n : Nat}, i ≤ n → (∀ j, i ≤ j → j < n → f j = g j) → sumTo f n - sumTo f i = sumTo g n - sumTo g i
  | 0, h, _ => by
    obtain rfl : i = 0 := by omega
    omega
  | n + 1, h, hj => by
    by_cases he : i = n + 1
    · subst he; omega
    · have := sumTo_diff (f := f) (g := g) (i := i) (n := n) (by omega) (fun j h1 h2 => hj j h1 (by omega))
      have h2 := hj n (by omega) (by omega)
      show sumTo f n + f n - sumTo f i = sumTo g n + g n - sumTo g i
      omega
theorem sumTo_add (f g : Nat → Int) : ∀ i, sumTo (fun j => f j + g j) i = sumTo f i + sumTo g i
  | 0 => rfl
  | i + 1 => by
    show sumTo (fun j => f j + g j) i + (f i + g i) = sumTo f i + f i + (sumTo g i + g i)
    rw [sumTo_add f g i]; omega
theorem sumTo_zero : ∀ {f : Nat → Int} {i : Nat}, (∀ j, j < i → f j = 0) → sumTo f i = 0
  | f, 0, _ => rfl
  | f, i + 1, h => by
    show sumTo f i + f i = 0
    rw [sumTo_zero (fun j hj => h j (by omega)), h i (by omega)]; rfl
theorem sumTo_mem {f : Nat → Int} : ∀ {i : Nat}, (∀ j, j < i → 0 ≤ f j) → 0 ≤ sumTo f i ∧ ∀ j, j < i → f j ≤ sumTo f i
  | 0, _ => ⟨by simp [sumTo], fun j hj => absurd hj (by omega)⟩
  | i + 1, h => by
    have ih := sumTo_mem (f := f) (i := i) (fun j hj => h j (by omega))
    have h1 := h i (by omega)
    refine ⟨by show 0 ≤ sumTo f i + f i; omega, fun j hj => ?_⟩
    show f j ≤ sumTo f i + f i
    by_cases he : j = i
    · subst he; omega
    · have := ih.2 j (by omega); omega

def usePair (us : List Int) (a b i : Nat) : List Int :=
  (us.set a (us.getD a 0 + us.getD i 0)).set b ((us.set a (us.getD a 0 + us.getD i 0)).getD b 0 + us.getD i 0)
def usStep (rs : List Fac) (us : List Int) (i : Nat) : List Int := if (rs.getD i default).l.size = 0 then usePair us (rs.getD i default).a.toNat (rs.getD i default).b.toNat i else us
def useGo (rs : List Fac) : Nat → List Int → List Int
  | 0, us => us
  | i + 1, us => useGo rs i (usStep rs us i)
def us0 (n : Nat) : List Int := (List.replicate n 0).set (n - 1) 1
/-- how often each rule is met -/
def usesOf (rs : List Fac) : List Int := useGo rs rs.length (us0 rs.length)

theorem getD_set (us : List Int) (a j : Nat) (v : Int) (ha : a < us.length) : (us.set a v).getD j 0 = if j = a then v else us.getD j 0 := by
  rw [List.getD_eq_getElem?_getD, List.getD_eq_getElem?_getD, List.getElem?_set]
  by_cases h : a = j
  · subst h; simp [ha]
  · rw [if_neg h, if_neg (fun e => h e.symm)]
theorem use0_at (n j : Nat) (hn : 0 < n) : (us0 n).getD j 0 = if j = n - 1 then 1 else 0 := by
  unfold us0
  rw [getD_set _ _ _ _ (by simp; omega)]
  congr 1
  rw [List.getD_eq_getElem?_getD, List.getElem?_replicate]
  split <;> rfl
/-- a letter's part, a pair's part -/
def useL (rs : List Fac) (us : List Int) (j : Nat) : Int := if (rs.getD j default).l.size = 0 then 0 else us.getD j 0
def useP (rs : List Fac) (us : List Int) (j : Nat) : Int := if (rs.getD j default).l.size = 0 then us.getD j 0 else 0
theorem ite0_mul (c : Prop) [Decidable c] (x y : Int) : (if c then x else 0) * y = if c then x * y else 0 := by split <;> simp
structure UInv (rs : List Fac) (ls : List Int) (m : Nat) (us : List Int) : Prop where
  len : us.length = rs.length
  le : m ≤ rs.length
  nn : ∀ j, 0 ≤ us.getD j 0
  bd : ∀ j, us.getD j 0 ≤ 1000000000000000
  w : sumTo (fun j => us.getD j 0 * ls.getD j 0) m + (sumTo (useL rs us) rs.length - sumTo (useL rs us) m) = lastI ls
  c : sumTo (fun j => us.getD j 0) m + (sumTo (useL rs us) rs.length - sumTo (useL rs us) m) = 1 + (sumTo (useP rs us) rs.length - sumTo (useP rs us) m)
theorem fac_getD {rs : List Fac} {i : Nat} {r : Fac} (h : rs[i]? = some r) : rs.getD i default = r := by rw [List.getD_eq_getElem?_getD, h]; rfl
theorem usePair_len (us : List Int) (a b i : Nat) : (usePair us a b i).length = us.length := by unfold usePair; simp
theorem usePair_at {us : List Int} {a b i : Nat} (ha : a < us.length) (hb : b < us.length) (j : Nat) :
    (usePair us a b i).getD j 0 = us.getD j 0 + (if j = a then us.getD i 0 else 0) + (if j = b then us.getD i 0 else 0) := by
  unfold usePair
  rw [getD_set _ _ _ _ (by simpa using hb)]
  have q := fun j => getD_set us a j (us.getD a 0 + us.getD i 0) ha
  rw [q, q]
  by_cases h1 : j = b
  · by_cases h2 : j = a
    · rw [if_pos h1, if_pos h1, if_pos h2, ← h1, if_pos h2, h2]
    · rw [if_pos h1, if_pos h1, if_neg h2, ← h1, if_neg h2]; omega
  · by_cases h2 : j = a
    · rw [if_neg h1, if_neg h1, if_pos h2, if_pos h2, h2]; omega
    · rw [if_neg h1, if_neg h1, if_neg h2, if_neg h2]; omega
theorem uinv_start {rs : List Fac} {ls : List Int} (hll : ls.length = rs.length) (h0 : 0 < rs.length) : UInv rs ls rs.length (us0 rs.length) := by
  have h := fun j => use0_at rs.length j h0
  have z : ∀ (f : Nat → Int), sumTo (fun j => if j = rs.length - 1 then f j else 0) rs.length = f (rs.length - 1) := fun f => by
    rw [sumTo_upd (g := fun _ => 0) (rs.length - 1) (by omega) (fun j _ hne => by simp [hne]), sumTo_zero (fun _ _ => rfl)]
    simp
  refine ⟨by simp [us0], Nat.le_refl _, fun j => ?_, fun j => ?_, ?_, ?_⟩
  · rw [h]; split <;> omega
  · rw [h]; split <;> omega
  · have e : sumTo (fun j => (us0 rs.length).getD j 0 * ls.getD j 0) rs.length = lastI ls := by
      rw [sumTo_congr (g := fun j => if j = rs.length - 1 then ls.getD j 0 else 0) (fun j _ => by rw [h]; split <;> simp), z]
      unfold lastI; rw [hll]
    omega
  · have e : sumTo (fun j => (us0 rs.length).getD j 0) rs.length = 1 := by
      rw [sumTo_congr (g := fun j => if j = rs.length - 1 then (fun _ => (1 : Int)) j else 0) (fun j _ => by rw [h]), z]
    omega
theorem lens_last_le {ls : List Int} {rs : List Fac} (hls : gLens rs [] = some ls) (h0 : 0 < rs.length) (hll : ls.length = rs.length) : lastI ls ≤ 1000000000000000 := by
  unfold lastI
  have := lens_bound hls (i := ls.length - 1) (by omega)
  omega
theorem UInv.step {rs : List Fac} {ls : List Int} {i : Nat} {us : List Int} (hls : gLens rs [] = some ls) (hll : ls.length = rs.length) (h : UInv rs ls (i + 1) us) : UInv rs ls i (usStep rs us i) := by
  have hi : i < rs.length := h.le
  obtain ⟨r, hr⟩ : ∃ r, rs[i]? = some r := ⟨_, List.getElem?_eq_getElem hi⟩
  have hd := fac_getD hr
  have hlast := lens_last_le hls (by omega) hll
  have lnn : ∀ j, 0 ≤ useL rs us j := fun j => by unfold useL; split <;> first | omega | exact h.nn j
  unfold usStep
  rw [hd]
  have w := h.w
  have c := h.c
  have w1 : sumTo (fun j => us.getD j 0 * ls.getD j 0) (i + 1) = sumTo (fun j => us.getD j 0 * ls.getD j 0) i + us.getD i 0 * ls.getD i 0 := rfl
  have c1 : sumTo (fun j => us.getD j 0) (i + 1) = sumTo (fun j => us.getD j 0) i + us.getD i 0 := rfl
  have l1 : sumTo (useL rs us) (i + 1) = sumTo (useL rs us) i + useL rs us i := rfl
  have p1 : sumTo (useP rs us) (i + 1) = sumTo (useP rs us) i + useP rs us i := rfl
  by_cases h0 : r.l.size = 0
  · rw [if_pos h0]
    have lp := lens_pair hls hr h0
    rcases wf_of hls i r hr with ⟨_, ha0, ha1, hb0, hb1⟩ | ⟨cc, _, hxl, _⟩
    case inr => rw [hxl] at h0; exact absurd h0 (show ¬ (1 : Nat) = 0 by omega)
    have ha : r.a.toNat < us.length := by have := h.len; omega
    have hb : r.b.toNat < us.length := by have := h.len; omega
    have at_ := usePair_at (i := i) ha hb
    have eL : useL rs us i = 0 := by unfold useL; rw [hd, if_pos h0]
    have eP : useP rs us i = us.getD i 0 := by unfold useP; rw [hd, if_pos h0]
    -- what is left below i
    have wa : ∀ (f : Nat → Int), sumTo (fun j => (us.getD j 0 + (if j = r.a.toNat then us.getD i 0 else 0) + (if j = r.b.toNat then us.getD i 0 else 0)) * f j) i = sumTo (fun j => us.getD j 0 * f j) i + us.getD i 0 * f r.a.toNat + us.getD i 0 * f r.b.toNat := by
      intro f
      rw [sumTo_congr (g := fun j => (us.getD j 0 * f j + (if j = r.a.toNat then us.getD i 0 * f j else 0)) + (if j = r.b.toNat then us.getD i 0 * f j else 0)) (fun j _ => by
        rw [Int.add_mul, Int.add_mul, ite0_mul, ite0_mul])]
      rw [sumTo_add, sumTo_add]
      have z : ∀ a, a < i → sumTo (fun j => if j = a then us.getD i 0 * f j else 0) i = us.getD i 0 * f a := fun a ha => by
        rw [sumTo_upd (g := fun _ => 0) a ha (fun j _ hne => by simp [hne]), sumTo_zero (fun _ _ => rfl)]
        simp
      rw [z _ (by omega), z _ (by omega)]
    have wf := wa (fun j => ls.getD j 0)
    have wc := wa (fun _ => 1)
    simp only [Int.mul_one] at wc
    have ee : ∀ j, i ≤ j → (usePair us r.a.toNat r.b.toNat i).getD j 0 = us.getD j 0 := fun j hj => by rw [at_, if_neg (by omega), if_neg (by omega)]; simp
    have dl : sumTo (useL rs (usePair us r.a.toNat r.b.toNat i)) rs.length - sumTo (useL rs (usePair us r.a.toNat r.b.toNat i)) i = sumTo (useL rs us) rs.length - sumTo (useL rs us) i :=
      sumTo_diff (by omega) (fun j h1 _ => by unfold useL; rw [ee j h1])
    have dp : sumTo (useP rs (usePair us r.a.toNat r.b.toNat i)) rs.length - sumTo (useP rs (usePair us r.a.toNat r.b.toNat i)) i = sumTo (useP rs us) rs.length - sumTo (useP rs us) i :=
      sumTo_diff (by omega) (fun j h1 _ => by unfold useP; rw [ee j h1])
    have nn' : ∀ j, 0 ≤ (usePair us r.a.toNat r.b.toNat i).getD j 0 := fun j => by
      rw [at_]
      have := h.nn j; have := h.nn i
      split <;> split <;> omega
    have W : sumTo (fun j => (usePair us r.a.toNat r.b.toNat i).getD j 0 * ls.getD j 0) i + (sumTo (useL rs (usePair us r.a.toNat r.b.toNat i)) rs.length - sumTo (useL rs (usePair us r.a.toNat r.b.toNat i)) i) = lastI ls := by
      rw [dl, sumTo_congr (fun j _ => by rw [at_]), wf]
      rw [lp, Int.mul_add] at w1
      omega
    refine ⟨by rw [usePair_len]; exact h.len, by omega, nn', fun j => ?_, W, ?_⟩
    · by_cases hj : j < i
      · have hm := (sumTo_mem (f := fun j => (usePair us r.a.toNat r.b.toNat i).getD j 0 * ls.getD j 0) (i := i) (fun j hj => Int.mul_nonneg (nn' j) (by have := lens_bound hls (i := j) (by omega); omega))).2 j hj
        have hd2 := sumTo_mem (f := useL rs us) (i := rs.length) (fun j _ => lnn j)
        have hd3 : 0 ≤ sumTo (useL rs us) rs.length - sumTo (useL rs us) i := by
          have e : sumTo (useL rs us) rs.length - sumTo (useL rs us) i = sumTo (fun j => if j < i then 0 else useL rs us j) rs.length - sumTo (fun j => if j < i then 0 else useL rs us j) i :=
            sumTo_diff (by omega) (fun j h1 h2 => by rw [if_neg (by omega)])
          rw [e, sumTo_zero (i := i) (fun j hj => by rw [if_pos hj])]
          have := (sumTo_mem (f := fun j => if j < i then 0 else useL rs us j) (i := rs.length) (fun j _ => by split <;> first | omega | exact lnn j)).1
          omega
        have hb := lens_bound hls (i := j) (by omega)
        have hn := nn' j
        have hle : (usePair us r.a.toNat r.b.toNat i).getD j 0 ≤ (usePair us r.a.toNat r.b.toNat i).getD j 0 * ls.getD j 0 := by
          have := Int.mul_le_mul_of_nonneg_left hb.1 hn
          omega
        rw [dl] at W
        omega
      · rw [ee j (by omega)]
        exact h.bd j
    · rw [dl, dp, sumTo_congr (g := fun j => us.getD j 0 + (if j = r.a.toNat then us.getD i 0 else 0) + (if j = r.b.toNat then us.getD i 0 else 0)) (fun j _ => at_ j), wc]
      omega
  · rw [if_neg h0]
    have lt := lens_let hls hr h0
    have eL : useL rs us i = us.getD i 0 := by unfold useL; rw [hd, if_neg h0]
    have eP : useP rs us i = 0 := by unfold useP; rw [hd, if_neg h0]
    rw [lt, Int.mul_one] at w1
    exact ⟨h.len, by omega, h.nn, h.bd, by omega, by omega⟩
theorem useGo_inv {rs : List Fac} {ls : List Int} (hls : gLens rs [] = some ls) (hll : ls.length = rs.length) : ∀ (m : Nat) (us : List Int), UInv rs ls m us → UInv rs ls 0 (useGo rs m us)
  | 0, _, h => h
  | m + 1, us, h => useGo_inv hls hll m _ (h.step hls hll)
theorem uses_inv {rs : List Fac} {ls : List Int} (hls : gLens rs [] = some ls) (hll : ls.length = rs.length) (h0 : 0 < rs.length) : UInv rs ls 0 (usesOf rs) := useGo_inv hls hll _ _ (uinv_start hll h0)
/-- all pairs together are met once less than there are letters -/
theorem uses_pairs {rs : List Fac} {ls : List Int} (hls : gLens rs [] = some ls) (hll : ls.length = rs.length) (h0 : 0 < rs.length) : sumTo (useP rs (usesOf rs)) rs.length = lastI ls - 1 := by
  have h := uses_inv hls hll h0
  have w := h.w
  have c := h.c
  simp only [sumTo] at w c
  omega
end Go.Proofs.Ytecnkmndmnefdaa


/-
  Rows of numbers that are filled one by one; the bytes of a plain word.
-/
namespace Go.Proofs.Ytecnkmndmnefdaa
open Go.RowKit

theorem okW_b {p : ByteArray} (h : okW p = true) : p.size ≤ 2000 ∧ ∀ i (hi : i < p.size), letB (p[i]'hi) = true := by
  simp only [okW, Bool.and_eq_true, decide_eq_true_eq, List.all_eq_true] at h
  refine ⟨h.1, fun i hi => h.2 _ ?_⟩
  exact List.mem_of_getElem? (at_byte p i hi)
theorem made_at {n j : Nat} (h : j < n) : (madeCells (Value.int .i64 0).cells (n * 1))[j]? = some (.int .i64 0) := by
  rw [Array.getElem?_eq_getElem (by rw [size_madeCells]; simpa [Value.cells] using h)]
  simp [madeCells, Value.cells, Nat.mod_one]
theorem fillc {f : Nat → Int} {cs : Array Value} {n k : Nat} (hs : cs.size = n) (hk : k < n) (hc : ∀ j, j < n → cs[j]? = some (.int .i64 (if j < k then f j else 0))) (v : Int) (hv : f k = v) :
    (cs.setIfInBounds k (.int .i64 v)).size = n ∧ ∀ j, j < n → (cs.setIfInBounds k (.int .i64 v))[j]? = some (.int .i64 (if j < k + 1 then f j else 0)) := by
  refine ⟨by simpa using hs, fun j hj => ?_⟩
  by_cases h : j = k
  · subst h
    rw [Array.getElem?_setIfInBounds_self_of_lt (by omega), if_pos (by omega), hv]
  · rw [Array.getElem?_setIfInBounds_ne (by omega), hc j hj]
    by_cases h2 : j < k
    · rw [if_pos h2, if_pos (by omega)]
    · rw [if_neg h2, if_neg (by omega)]
theorem keepc {f : Nat → Int} {cs : Array Value} {n k : Nat} (hk : k < n) (hc : ∀ j, j < n → cs[j]? = some (.int .i64 (if j < k then f j else 0))) (hv : f k = 0) :
    ∀ j, j < n → cs[j]? = some (.int .i64 (if j < k + 1 then f j else 0)) := by
  intro j hj
  rw [hc j hj]
  by_cases h : j = k
  · subst h
    rw [if_neg (by omega), if_pos (by omega), hv]
  · by_cases h2 : j < k
    · rw [if_pos h2, if_pos (by omega)]
    · rw [if_neg h2, if_neg (by omega)]
theorem Rd.n64 {w : World} {B n : Nat} {A : Option Addr} {xs : List Int} {k : Nat} (h : Rd w B A n 1 intE xs) (hk : k < n) :
    ∃ b o, A = some ⟨b, o, none⟩ ∧ b < B ∧ w.cell? ⟨b, o + k, none⟩ = some (.int .i64 (xs.getD k 0)) := by
  obtain ⟨b, o, hA, hb, x, hx, hc⟩ := h.at_ hk
  refine ⟨b, o, hA, hb, ?_⟩
  have := hc 0 _ rfl
  rw [List.getD_eq_getElem?_getD, hx]
  simpa using this
end Go.Proofs.Ytecnkmndmnefdaa


/-
  How often each rule is met: in the program and in the reference.
-/
namespace Go.Proofs.Ytecnkmndmnefdaa
open Go.RowKit

def arrI (us : List Int) : Array Value := (us.map fun z => Value.int .i64 z).toArray
theorem arrI_size (us : List Int) : (arrI us).size = us.length := by simp [arrI]
theorem arrI_at {us : List Int} {j : Nat} (h : j < us.length) : (arrI us)[j]? = some (.int .i64 (us.getD j 0)) := by
  simp [arrI, List.getElem?_eq_getElem h, List.getD_eq_getElem?_getD]
theorem arrI_set (us : List Int) (a : Nat) (v : Int) : (arrI us).setIfInBounds a (.int .i64 v) = arrI (us.set a v) := by
  simp [arrI, List.map_set]
theorem made_arrI (n : Nat) : madeCells #[Value.int .i64 0] n = arrI (List.replicate n 0) := by
  apply Array.ext_getElem?
  intro i
  by_cases h : i < n
  · rw [arrI_at (by simpa using h)]
    have := made_at (n := n) (j := i) h
    rw [Nat.mul_one] at this
    rw [show (Value.int IntKind.i64 0).cells = #[Value.int .i64 0] from rfl] at this
    rw [this, List.getD_eq_getElem?_getD, List.getElem?_replicate, if_pos h]; rfl
  · rw [Array.getElem?_eq_none (by rw [size_madeCells]; omega), Array.getElem?_eq_none (by rw [arrI_size]; simp; omega)]
theorem arrI_own {w : World} {base g : Nat} {us : List Int} (hB : Blk w g 2 (arrI us)) (hg : base ≤ g) (hm : us.length ≤ maxLen) : w.ownsRow base 2 1 (.slice (some ⟨g, 0, none⟩) us.length us.length) us.length (us.flatMap intE) :=
  own_of_blk hB hg (by rw [arrI_size, Nat.mul_one]) rfl hm (fun _ _ => rfl) (fun k x hx j hj => by
    obtain rfl : j = 0 := by omega
    have hk : k < us.length := (List.getElem?_eq_some_iff.1 hx).1
    rw [Nat.mul_one, Nat.add_zero, arrI_at hk, List.getD_eq_getElem?_getD, hx]; rfl)
theorem useStep_pair {rs : List Fac} {i : Nat} {r : Fac} (h : rs[i]? = some r) (h0 : r.l.size = 0) (us : List Int) : usStep rs us i = usePair us r.a.toNat r.b.toNat i := by
  unfold usStep; rw [fac_getD h, if_pos h0]
theorem useStep_let {rs : List Fac} {i : Nat} {r : Fac} (h : rs[i]? = some r) (h0 : r.l.size ≠ 0) (us : List Int) : usStep rs us i = us := by
  unfold usStep; rw [fac_getD h, if_neg h0]
set_option maxHeartbeats 4000000 in
set_option maxRecDepth 100000 in
theorem implUses_any (A : Option Addr) (n c : Nat) (rs : List Fac) (ls : List Int) (w : World) (hn : n ≤ 1048576) (hr : Rd w w.heap.size A n 3 Fac.cells rs) (hls : gLens rs [] = some ls) (hll : ls.length = rs.length) :
    Calls Try.prog 41 #[.agg #[.slice A n c]] w (RetNew w 2 1 intE (usesOf rs)) := by
  obtain ⟨i0, hi, hz0, hz1, hz2⟩ := info_parts info_i64
  have hl := Lib.hid hr.len
  have HR := Lib.hid hr; clear hr
  have HL := Lib.hid hls; clear hls
  have Hll := Lib.hid hll; clear hll
  have hmk := run_make_rowN (P := Try.prog) 32 2 i0 _ Try.underlying32 hi hz0 .i64 .i64 n n (Nat.le_refl _) (by rw [hz2]; omega) (by omega)
  rw [hz1] at hmk
  go_enter Try.func41, Try.ntmps41
  go_wp2_with fail
  clear hmk
  go_loopw [4] (fun i_ w' => ∃ (m : Nat) (z : Int) (us : List Int), i_ = .int .i64 z ∧ z = (m : Int) - 1 ∧ m ≤ n ∧ Below w.heap.size w w' ∧ Hid (Blk w' w.heap.size 26 #[.slice A n c]) ∧
      Hid (Blk w' (w.heap.size + 1) 2 (arrI (if m = n then List.replicate n 0 else us))) ∧ Hid (us.length = n) ∧ Hid (m = n → us = us0 n) ∧ Hid (useGo rs m us = usesOf rs) ∧ Hid (0 < n → UInv rs ls m us)) (fun i_ _ => (intOf i_ + 1).toNat)
  case atStart =>
    refine ⟨n, _, us0 n, rfl, rfl, by omega, by (repeat first | exact Below.refl _ _ | assumption | refine Below.drew ?_ | refine Below.alloc ?_ (by first | exact Nat.le_refl _ | (simp; done) | omega | (simp; omega)) _ | refine Below.setCell ?_ (by first | exact Nat.le_refl _ | (simp; done) | omega | (simp; omega)) _), Lib.hid ((Blk.new _ _ _).alloc _), Lib.hid ?_, Lib.hid (by simp [us0]), Lib.hid (fun _ => rfl), Lib.hid (by unfold usesOf; rw [hl.out]), Lib.hid (fun h => ?_)⟩
    · rw [if_pos rfl, ← made_arrI]; simpa using Blk.new (w.alloc _) _ _
    · have := uinv_start Hll.out (by rw [hl.out]; exact h)
      rw [hl.out] at this
      exact this
  case round =>
    obtain ⟨m, z, us, rfl, hz, hm, hb, hG, hB, hul, hu0, H, hU⟩ := hrel
    have Hz := Lib.hid hz; clear hz
    have cg := hG.out.cell 0
    have lg := hG.out.lt
    have lo : w.heap.size + 1 < wr.heap.size := hB.out.lt
    rcases Nat.eq_zero_or_pos m with hm0 | hm1
    · obtain rfl : z = -1 := by have := Hz.out; omega
      have Hm0 := Lib.hid hm0
      have eU := Lib.hid (show usesOf rs = us by rw [← H.out, hm0]; rfl)
      have hB2 := Lib.hid (show Blk wr (w.heap.size + 1) 2 (arrI us) by
        by_cases h : m = n
        · have := hB.out
          rw [if_pos h] at this
          rw [show us = List.replicate n 0 by rw [hu0.out h, ← h, hm0]; rfl]
          exact this
        · have := hB.out
          rw [if_neg h] at this
          exact this)
      clear hm0
      go_wp2_with fail
      go_ret
      rw [eU.out]
      refine ⟨_, n, ret_slice hul.out.symm, ?_, hb⟩
      have := arrI_own (base := w.heap.size) hB2.out (by omega) (by rw [hul.out]; unfold maxLen; omega)
      rw [hul.out] at this ⊢
      exact this
    · obtain ⟨i, rfl⟩ : ∃ i, m = i + 1 := ⟨m - 1, by omega⟩
      obtain rfl : z = (i : Int) := by have := Hz.out; omega
      have U := Lib.hid (hU.out (by omega))
      obtain ⟨b, o, x, rfl, hBr, gx, c0, c1, c2⟩ := (HR.out.below hb).fac (k := i) (by omega)
      have hBr2 : b < wr.heap.size := Nat.lt_of_lt_of_le hBr hb.size
      have Gx := Lib.hid gx; clear gx
      have nxt := Lib.hid (U.out.step HL.out Hll.out)
      have hgo := Lib.hid (show useGo rs i (usStep rs us i) = usesOf rs from H.out)
      have i1 : (i : Int) < (n : Int) := by omega
      have i0' : (0 : Int) ≤ (i : Int) := by omega
      have Hx := Lib.hid (fun (w1 : World) (hb1 : Below w.heap.size w w1) (hB1 : Blk w1 (w.heap.size + 1) 2 (arrI us)) => hB1)
      have hul' : us.length = n := hul.out
      have hl' := hl.out
      have b15 := U.out.bd
      have b0 := U.out.nn
      have ePair := Lib.hid (fun h0 => useStep_pair (rs := rs) Gx.out h0 us)
      have eLet := Lib.hid (fun h0 => useStep_let (rs := rs) Gx.out h0 us)
      have wfx := wf_of HL.out i x Gx.out
      have Hul := Lib.hid hul'
      clear hul' hl'
      rcases wfx with ⟨h0, ha0, ha1, hb0, hb1⟩ | ⟨cc, hcc, hxl, hxz⟩
      · have ea := ePair.out h0
        have EA := Lib.hid ea; clear ea
        have ua15 := b15 x.a.toNat
        have ua0 := b0 x.a.toNat
        have ui15 := b15 i
        have ui0 := b0 i
        have uB := Lib.hid (fun (ub' : Int) (h : ub' = (us.set x.a.toNat (us.getD x.a.toNat 0 + us.getD i 0)).getD x.b.toNat 0) => show 0 ≤ ub' ∧ ub' ≤ 2000000000000000 by
          rw [h, getD_set _ _ _ _ (by rw [Hul.out]; omega)]
          have := b15 x.b.toNat; have := b0 x.b.toNat
          split <;> omega)
        clear b15 b0
        by_cases he : i + 1 = n
        · have e1 : ((i : Int) == (n : Int) - 1) = true := by simp; omega
          have hB' := Lib.hid (show Blk wr (w.heap.size + 1) 2 (arrI (List.replicate n 0)) by have := hB.out; rw [if_pos he] at this; exact this)
          have eS := Lib.hid (show (arrI (List.replicate n 0)).setIfInBounds i (.int .i64 1) = arrI us by rw [arrI_set, hu0.out he]; unfold us0; rw [← he]; rfl)
          have s0 := (hB'.out.cell i).trans (arrI_at (by simp; omega))
          have f0 := hB'.out.frozen i
          have hbS : Below w.heap.size wr (wr.setCell ⟨w.heap.size + 1, i, none⟩ (.int .i64 1)) := (Below.refl _ _).setCell (by simp) _
          have d0 := (hbS.cell (p := ⟨b, o + i * 3, none⟩) hBr).trans c0
          have d1 := (hbS.cell (p := ⟨b, o + i * 3 + 1, none⟩) hBr).trans c1
          have d2 := (hbS.cell (p := ⟨b, o + i * 3 + 2, none⟩) hBr).trans c2
          have dg : (wr.setCell ⟨w.heap.size + 1, i, none⟩ (.int .i64 1)).cell? ⟨w.heap.size, 0, none⟩ = some (.slice (some ⟨b, o, none⟩) n c) := ((hG.out.far (p := ⟨w.heap.size + 1, i, none⟩) (by simp) _).cell 0)
          have HbS := Lib.hid hbS
          clear he hbS
          go_wp2_with fail
          refine namedC fun w1 H1 => ?_
          have B1 := Lib.hid (show Blk w1 (w.heap.size + 1) 2 (arrI us) by rw [H1.out, ← eS.out]; exact (hB'.out.set_ _ _).alloc _)
          have G1 := Lib.hid (show Blk w1 w.heap.size 26 #[.slice (some ⟨b, o, none⟩) n c] by rw [H1.out]; exact (hG.out.far (by simp) _).alloc _)
          have R1 := Lib.hid (show Blk w1 wr.heap.size 69 #[.string x.l, .int .i64 x.a, .int .i64 x.b] by rw [H1.out]; simpa using Blk.new (wr.setCell ⟨w.heap.size + 1, i, none⟩ (.int .i64 1)) _ _)
          have hb1 : Below w.heap.size w w1 := by rw [H1.out]; exact (hb.trans HbS.out).alloc (by simpa using hb.size) _
          clear H1 s0 f0 e1 d0 d1 d2 dg cg lg
          refine (isPair_any x true _ (by simpa [isP] using h0)).mono ?_
          rintro e2 w2 ⟨rfl, hb2⟩
          have B2 := B1.out.next hb2
          have R2 := R1.out.next hb2
          have G2 := Lib.hid (G1.out.next hb2)
          have bb2 := Lib.hid (hb1.trans (hb2.mono hb1.size))
          obtain ⟨r0, r1, r2⟩ := R2.three
          have lr := R2.lt
          have lb := B2.lt
          have sa := (B2.cell x.a.toNat).trans (arrI_at (by rw [Hul.out]; omega))
          have fa := B2.frozen x.a.toNat
          have si := (B2.cell i).trans (arrI_at (by rw [Hul.out]; omega))
          have HB2 := Lib.hid B2
          have HR2 := Lib.hid R2
          clear B2 R2 hb1 hb2
          generalize hua : us.getD x.a.toNat 0 = ua at *
          generalize hui : us.getD i 0 = ui at *
          have Hua := Lib.hid hua; have Hui := Lib.hid hui
          clear hua hui
          go_wp2_with fail
          go_region
          generalize hW3 : World.drew _ = w3
          have H3 := Lib.hid hW3.symm; clear hW3
          obtain ⟨us1, hu1⟩ : ∃ us1, us1 = us.set x.a.toNat (ua + ui) := ⟨_, rfl⟩
          have Hu1 := Lib.hid hu1
          have hl1 := Lib.hid (show us1.length = n by rw [hu1, List.length_set]; exact Hul.out)
          have B3 := Lib.hid (show Blk w3 (w.heap.size + 1) 2 (arrI us1) by rw [H3.out, hu1, ← arrI_set]; exact (HB2.out.set_ _ _).drew)
          have R3 := Lib.hid (show Blk w3 wr.heap.size 69 #[.string x.l, .int .i64 x.a, .int .i64 x.b] by rw [H3.out]; exact (HR2.out.far (by have := lo; simp; omega) _).drew)
          have G3 := Lib.hid (show Blk w3 w.heap.size 26 #[.slice (some ⟨b, o, none⟩) n c] by rw [H3.out]; exact (G2.out.far (by simp) _).drew)
          have bb3 := Lib.hid (show Below w.heap.size w w3 by rw [H3.out]; exact ((bb2.out).setCell (by simp) _).drew)
          have ei := Lib.hid (show us1.getD i 0 = ui by rw [hu1, getD_set _ _ _ _ (by rw [Hul.out]; omega), if_neg (by omega)]; exact Hui.out)
          have uB' := uB.out (us1.getD x.b.toNat 0) (by rw [hu1])
          obtain ⟨ub, hub⟩ : ∃ ub, us1.getD x.b.toNat 0 = ub := ⟨_, rfl⟩
          rw [hub] at uB'
          have Hub := Lib.hid hub
          obtain ⟨ub0, ub20⟩ := uB'
          clear hu1 hub H3 sa fa si r0 r1 r2 lb lr
          obtain ⟨r0, r1, r2⟩ := R3.out.three
          have lr := R3.out.lt
          have lb := B3.out.lt
          have sb := (B3.out.cell x.b.toNat).trans (arrI_at (by rw [hl1.out]; omega))
          have fb := B3.out.frozen x.b.toNat
          have si := (B3.out.cell i).trans (arrI_at (by rw [hl1.out]; omega))
          rw [Hub.out] at sb
          rw [ei.out] at si
          go_wp2_with fail
          go_region
          generalize hW4 : World.drew _ = w4
          have H4 := Lib.hid hW4.symm; clear hW4
          go_wp2_with fail
          go_roundw
          case rel =>
            refine ⟨i, _, usStep rs us i, by go_num, rfl, by omega, ?_, Lib.hid ?_, Lib.hid ?_, Lib.hid ?_, Lib.hid (fun e => absurd e (by omega)), Lib.hid hgo.out, Lib.hid (fun _ => nxt.out)⟩
            · rw [H4.out]; exact ((bb3.out).setCell (by simp) _).drew
            · rw [H4.out]; exact (G3.out.far (by simp) _).drew
            · rw [if_neg (by omega), H4.out, EA.out]
              unfold usePair
              rw [Hua.out, Hui.out, ← Hu1.out, Hub.out, ← arrI_set]
              exact (B3.out.set_ _ _).drew
            · rw [EA.out, usePair_len]; exact Hul.out
          case measure => simp [intOf] <;> omega
        · have e1 : ((i : Int) == (n : Int) - 1) = false := by simp; omega
          have hB' := Lib.hid (show Blk wr (w.heap.size + 1) 2 (arrI us) by have := hB.out; rw [if_neg he] at this; exact this)
          clear he
          go_wp2_with fail
          refine namedC fun w1 H1 => ?_
          have B1 := Lib.hid (show Blk w1 (w.heap.size + 1) 2 (arrI us) by rw [H1.out]; exact hB'.out.alloc _)
          have G1 := Lib.hid (show Blk w1 w.heap.size 26 #[.slice (some ⟨b, o, none⟩) n c] by rw [H1.out]; exact hG.out.alloc _)
          have R1 := Lib.hid (show Blk w1 wr.heap.size 69 #[.string x.l, .int .i64 x.a, .int .i64 x.b] by rw [H1.out]; exact Blk.new wr _ _)
          have hb1 : Below w.heap.size w w1 := by rw [H1.out]; exact hb.alloc hb.size _
          clear H1 e1 cg lg
          refine (isPair_any x true _ (by simpa [isP] using h0)).mono ?_
          rintro e2 w2 ⟨rfl, hb2⟩
          have B2 := B1.out.next hb2
          have R2 := R1.out.next hb2
          have G2 := Lib.hid (G1.out.next hb2)
          have bb2 := Lib.hid (hb1.trans (hb2.mono hb1.size))
          obtain ⟨r0, r1, r2⟩ := R2.three
          have lr := R2.lt
          have lb := B2.lt
          have sa := (B2.cell x.a.toNat).trans (arrI_at (by rw [Hul.out]; omega))
          have fa := B2.frozen x.a.toNat
          have si := (B2.cell i).trans (arrI_at (by rw [Hul.out]; omega))
          have HB2 := Lib.hid B2
          have HR2 := Lib.hid R2
          clear B2 R2 hb1 hb2
          generalize hua : us.getD x.a.toNat 0 = ua at *
          generalize hui : us.getD i 0 = ui at *
          have Hua := Lib.hid hua; have Hui := Lib.hid hui
          clear hua hui
          go_wp2_with fail
          go_region
          generalize hW3 : World.drew _ = w3
          have H3 := Lib.hid hW3.symm; clear hW3
          obtain ⟨us1, hu1⟩ : ∃ us1, us1 = us.set x.a.toNat (ua + ui) := ⟨_, rfl⟩
          have Hu1 := Lib.hid hu1
          have hl1 := Lib.hid (show us1.length = n by rw [hu1, List.length_set]; exact Hul.out)
          have B3 := Lib.hid (show Blk w3 (w.heap.size + 1) 2 (arrI us1) by rw [H3.out, hu1, ← arrI_set]; exact (HB2.out.set_ _ _).drew)
          have R3 := Lib.hid (show Blk w3 wr.heap.size 69 #[.string x.l, .int .i64 x.a, .int .i64 x.b] by rw [H3.out]; exact (HR2.out.far (by have := lo; simp; omega) _).drew)
          have G3 := Lib.hid (show Blk w3 w.heap.size 26 #[.slice (some ⟨b, o, none⟩) n c] by rw [H3.out]; exact (G2.out.far (by simp) _).drew)
          have bb3 := Lib.hid (show Below w.heap.size w w3 by rw [H3.out]; exact ((bb2.out).setCell (by simp) _).drew)
          have ei := Lib.hid (show us1.getD i 0 = ui by rw [hu1, getD_set _ _ _ _ (by rw [Hul.out]; omega), if_neg (by omega)]; exact Hui.out)
          have uB' := uB.out (us1.getD x.b.toNat 0) (by rw [hu1])
          obtain ⟨ub, hub⟩ : ∃ ub, us1.getD x.b.toNat 0 = ub := ⟨_, rfl⟩
          rw [hub] at uB'
          have Hub := Lib.hid hub
          obtain ⟨ub0, ub20⟩ := uB'
          clear hu1 hub H3 sa fa si r0 r1 r2 lb lr
          obtain ⟨r0, r1, r2⟩ := R3.out.three
          have lr := R3.out.lt
          have lb := B3.out.lt
          have sb := (B3.out.cell x.b.toNat).trans (arrI_at (by rw [hl1.out]; omega))
          have fb := B3.out.frozen x.b.toNat
          have si := (B3.out.cell i).trans (arrI_at (by rw [hl1.out]; omega))
          rw [Hub.out] at sb
          rw [ei.out] at si
          go_wp2_with fail
          go_region
          generalize hW4 : World.drew _ = w4
          have H4 := Lib.hid hW4.symm; clear hW4
          go_wp2_with fail
          go_roundw
          case rel =>
            refine ⟨i, _, usStep rs us i, by go_num, rfl, by omega, ?_, Lib.hid ?_, Lib.hid ?_, Lib.hid ?_, Lib.hid (fun e => absurd e (by omega)), Lib.hid hgo.out, Lib.hid (fun _ => nxt.out)⟩
            · rw [H4.out]; exact ((bb3.out).setCell (by simp) _).drew
            · rw [H4.out]; exact (G3.out.far (by simp) _).drew
            · rw [if_neg (by omega), H4.out, EA.out]
              unfold usePair
              rw [Hua.out, Hui.out, ← Hu1.out, Hub.out, ← arrI_set]
              exact (B3.out.set_ _ _).drew
            · rw [EA.out, usePair_len]; exact Hul.out
          case measure => simp [intOf] <;> omega
      · have h0' : x.l.size ≠ 0 := by rw [hxl]; show (1 : Nat) ≠ 0; omega
        have EA := Lib.hid (eLet.out h0')
        clear b15 b0 hxl hxz hcc
        by_cases he : i + 1 = n
        · have e1 : ((i : Int) == (n : Int) - 1) = true := by simp; omega
          have hB' := Lib.hid (show Blk wr (w.heap.size + 1) 2 (arrI (List.replicate n 0)) by have := hB.out; rw [if_pos he] at this; exact this)
          have eS := Lib.hid (show (arrI (List.replicate n 0)).setIfInBounds i (.int .i64 1) = arrI us by rw [arrI_set, hu0.out he]; unfold us0; rw [← he]; rfl)
          have s0 := (hB'.out.cell i).trans (arrI_at (by simp; omega))
          have f0 := hB'.out.frozen i
          have hbS : Below w.heap.size wr (wr.setCell ⟨w.heap.size + 1, i, none⟩ (.int .i64 1)) := (Below.refl _ _).setCell (by simp) _
          have d0 := (hbS.cell (p := ⟨b, o + i * 3, none⟩) hBr).trans c0
          have d1 := (hbS.cell (p := ⟨b, o + i * 3 + 1, none⟩) hBr).trans c1
          have d2 := (hbS.cell (p := ⟨b, o + i * 3 + 2, none⟩) hBr).trans c2
          have dg : (wr.setCell ⟨w.heap.size + 1, i, none⟩ (.int .i64 1)).cell? ⟨w.heap.size, 0, none⟩ = some (.slice (some ⟨b, o, none⟩) n c) := ((hG.out.far (p := ⟨w.heap.size + 1, i, none⟩) (by simp) _).cell 0)
          have HbS := Lib.hid hbS
          clear he hbS
          go_wp2_with fail
          refine namedC fun w1 H1 => ?_
          have B1 := Lib.hid (show Blk w1 (w.heap.size + 1) 2 (arrI us) by rw [H1.out, ← eS.out]; exact (hB'.out.set_ _ _).alloc _)
          have G1 := Lib.hid (show Blk w1 w.heap.size 26 #[.slice (some ⟨b, o, none⟩) n c] by rw [H1.out]; exact (hG.out.far (by simp) _).alloc _)
          have R1 := Lib.hid (show Blk w1 wr.heap.size 69 #[.string x.l, .int .i64 x.a, .int .i64 x.b] by rw [H1.out]; simpa using Blk.new (wr.setCell ⟨w.heap.size + 1, i, none⟩ (.int .i64 1)) _ _)
          have hb1 : Below w.heap.size w w1 := by rw [H1.out]; exact (hb.trans HbS.out).alloc (by simpa using hb.size) _
          clear H1 s0 f0 e1 d0 d1 d2 dg cg lg
          refine (isPair_any x false _ (by simpa [isP] using h0')).mono ?_
          rintro e2 w2 ⟨rfl, hb2⟩
          go_wp2_with fail
          go_roundw
          case rel =>
            refine ⟨i, _, us, by go_num, rfl, by omega, hb1.trans (hb2.mono hb1.size), Lib.hid (G1.out.next hb2), Lib.hid ?_, Hul, Lib.hid (fun e => absurd e (by omega)), Lib.hid (by rw [← hgo.out, EA.out]), Lib.hid (fun _ => by have := nxt.out; rw [EA.out] at this; exact this)⟩
            rw [if_neg (by omega)]
            exact B1.out.next hb2
          case measure => simp [intOf] <;> omega
        · have e1 : ((i : Int) == (n : Int) - 1) = false := by simp; omega
          have hB' := Lib.hid (show Blk wr (w.heap.size + 1) 2 (arrI us) by have := hB.out; rw [if_neg he] at this; exact this)
          clear he
          go_wp2_with fail
          refine namedC fun w1 H1 => ?_
          have B1 := Lib.hid (show Blk w1 (w.heap.size + 1) 2 (arrI us) by rw [H1.out]; exact hB'.out.alloc _)
          have G1 := Lib.hid (show Blk w1 w.heap.size 26 #[.slice (some ⟨b, o, none⟩) n c] by rw [H1.out]; exact hG.out.alloc _)
          have R1 := Lib.hid (show Blk w1 wr.heap.size 69 #[.string x.l, .int .i64 x.a, .int .i64 x.b] by rw [H1.out]; exact Blk.new wr _ _)
          have hb1 : Below w.heap.size w w1 := by rw [H1.out]; exact hb.alloc hb.size _
          clear H1 e1 cg lg
          refine (isPair_any x false _ (by simpa [isP] using h0')).mono ?_
          rintro e2 w2 ⟨rfl, hb2⟩
          go_wp2_with fail
          go_roundw
          case rel =>
            refine ⟨i, _, us, by go_num, rfl, by omega, hb1.trans (hb2.mono hb1.size), Lib.hid (G1.out.next hb2), Lib.hid ?_, Hul, Lib.hid (fun e => absurd e (by omega)), Lib.hid (by rw [← hgo.out, EA.out]), Lib.hid (fun _ => by have := nxt.out; rw [EA.out] at this; exact this)⟩
            rw [if_neg (by omega)]
            exact B1.out.next hb2
          case measure => simp [intOf] <;> omega
set_option maxHeartbeats 4000000 in
set_option maxRecDepth 100000 in
theorem specUses_any (gb : Nat) (A : Option Addr) (n c : Nat) (rs : List Fac) (ls : List Int) (w : World) (hgb : gb < w.heap.size) (hc : w.cell? ⟨gb, 0, none⟩ = some (.slice A n c)) (hn : n ≤ 1048576) (hr : Rd w w.heap.size A n 3 Fac.cells rs) (hls : gLens rs [] = some ls) (hll : ls.length = rs.length) :
    Calls Try.prog 61 #[.pointer (some ⟨gb, 0, none⟩)] w (RetNew w 2 1 intE (usesOf rs)) := by
  obtain ⟨i0, hi, hz0, hz1, hz2⟩ := info_parts info_i64
  have hl := Lib.hid hr.len
  have HR := Lib.hid hr; clear hr
  have HL := Lib.hid hls; clear hls
  have Hll := Lib.hid hll; clear hll
  have hmk := run_make_rowN (P := Try.prog) 32 2 i0 _ Try.underlying32 hi hz0 .i64 .i64 n n (Nat.le_refl _) (by rw [hz2]; omega) (by omega)
  rw [hz1] at hmk
  rcases Nat.eq_zero_or_pos n with hn0 | hn1
  · have eU := Lib.hid (show usesOf rs = [] by
      have h := List.eq_nil_of_length_eq_zero (hl.out.trans hn0)
      subst h; rfl)
    subst hn0
    have hmk0 : ∀ w : World, Sem.run Try.prog (Instr.makeSlice 32 (.int .i64 0) (.int .i64 0)) w = _ := fun w => hmk w
    clear hmk
    go_enter Try.func61, Try.ntmps61
    go_wp2_with fail
    clear hmk0
    go_loopw [4] (fun i_ w' => i_ = .int .i64 (-1) ∧ Below w.heap.size w w' ∧ Hid (Blk w' w.heap.size 2 (arrI []))) (fun _ _ => 0)
    case atStart => exact ⟨rfl, by (repeat first | exact Below.refl _ _ | assumption | refine Below.drew ?_ | refine Below.alloc ?_ (by first | exact Nat.le_refl _ | (simp; done) | omega | (simp; omega)) _ | refine Below.setCell ?_ (by first | exact Nat.le_refl _ | (simp; done) | omega | (simp; omega)) _), Lib.hid (by rw [show arrI [] = madeCells #[Value.int .i64 0] 0 from (made_arrI 0).symm]; exact Blk.new w _ _)⟩
    case round =>
      obtain ⟨rfl, hb, hB⟩ := hrel
      go_wp2_with fail
      go_ret
      rw [eU.out]
      exact ⟨_, 0, rfl, arrI_own (base := w.heap.size) hB.out (by omega) (by unfold maxLen; simp), hb⟩
  · have s0 : (w.alloc (.cells (madeCells #[Value.int .i64 0] n) 2)).cell? ⟨w.heap.size, n - 1, none⟩ = some (.int .i64 ((List.replicate n 0).getD (n - 1) 0)) := by
      rw [(Blk.new w 2 (madeCells #[Value.int .i64 0] n)).cell (n - 1), made_arrI]; exact arrI_at (by simp; omega)
    have t0 : ((n : Int) - 1).toNat = n - 1 := by omega
    go_enter Try.func61, Try.ntmps61
    go_wp2_with fail
    clear hmk
    go_loopw [4] (fun i_ w' => ∃ (m : Nat) (us : List Int), i_ = .int .i64 ((m : Int) - 1) ∧ m ≤ n ∧ Below w.heap.size w w' ∧ Hid (Blk w' w.heap.size 2 (arrI us)) ∧ Hid (us.length = n) ∧ Hid (useGo rs m us = usesOf rs) ∧ Hid (UInv rs ls m us)) (fun i_ _ => (intOf i_ + 1).toNat)
    case atStart =>
      refine ⟨n, us0 n, rfl, by omega, by (repeat first | exact Below.refl _ _ | assumption | refine Below.drew ?_ | refine Below.alloc ?_ (by first | exact Nat.le_refl _ | (simp; done) | omega | (simp; omega)) _ | refine Below.setCell ?_ (by first | exact Nat.le_refl _ | (simp; done) | omega | (simp; omega)) _), Lib.hid ?_, Lib.hid (by simp [us0]), Lib.hid (by unfold usesOf; rw [hl.out]), Lib.hid ?_⟩
      · unfold us0; rw [← arrI_set, ← made_arrI]; exact Blk.new w _ _
      · have := uinv_start Hll.out (by rw [hl.out]; exact hn1)
        rw [hl.out] at this
        exact this
    case round =>
      obtain ⟨m, us, rfl, hm, hb, hB, Hul, H, U⟩ := hrel
      have lo : w.heap.size < wr.heap.size := hB.out.lt
      have cg := (hb.cell (p := ⟨gb, 0, none⟩) hgb).trans hc
      have lg : gb < wr.heap.size := by omega
      rcases Nat.eq_zero_or_pos m with hm0 | hm1
      · have eU := Lib.hid (show usesOf rs = us by rw [← H.out, hm0]; rfl)
        subst hm0
        go_wp2_with fail
        go_ret
        rw [eU.out]
        refine ⟨_, n, ret_slice Hul.out.symm, ?_, hb⟩
        have := arrI_own (base := w.heap.size) hB.out (by omega) (by rw [Hul.out]; unfold maxLen; omega)
        rw [Hul.out] at this ⊢
        exact this
      · obtain ⟨i, rfl⟩ : ∃ i, m = i + 1 := ⟨m - 1, by omega⟩
        rw [show (((i + 1 : Nat) : Int) - 1) = (i : Int) by omega]
        obtain ⟨b, o, x, rfl, hBr, gx, c0, c1, c2⟩ := (HR.out.below hb).fac (k := i) (by omega)
        have hBr2 : b < wr.heap.size := Nat.lt_of_lt_of_le hBr hb.size
        have Gx := Lib.hid gx; clear gx
        have nxt := Lib.hid (U.out.step HL.out Hll.out)
        have hgo := Lib.hid (show useGo rs i (usStep rs us i) = usesOf rs from H.out)
        have i1 : (i : Int) < (n : Int) := by omega
        have i0' : (0 : Int) ≤ (i : Int) := by omega
        have hl' := hl.out
        have b15 := U.out.bd
        have b0 := U.out.nn
        have ePair := Lib.hid (fun h0 => useStep_pair (rs := rs) Gx.out h0 us)
        have eLet := Lib.hid (fun h0 => useStep_let (rs := rs) Gx.out h0 us)
        have wfx := wf_of HL.out i x Gx.out
        clear hl'
        rcases wfx with ⟨h0, ha0, ha1, hb0, hb1⟩ | ⟨cc, hcc, hxl, hxz⟩
        · have EA := Lib.hid (ePair.out h0)
          have ua15 := b15 x.a.toNat
          have ua0 := b0 x.a.toNat
          have ui15 := b15 i
          have ui0 := b0 i
          have uB := Lib.hid (fun (ub' : Int) (h : ub' = (us.set x.a.toNat (us.getD x.a.toNat 0 + us.getD i 0)).getD x.b.toNat 0) => show 0 ≤ ub' ∧ ub' ≤ 2000000000000000 by
            rw [h, getD_set _ _ _ _ (by rw [Hul.out]; omega)]
            have := b15 x.b.toNat; have := b0 x.b.toNat
            split <;> omega)
          clear b15 b0
          have e0 := size0 h0
          have H0 := Lib.hid h0; clear h0
          have sa := (hB.out.cell x.a.toNat).trans (arrI_at (by rw [Hul.out]; omega))
          have fa := hB.out.frozen x.a.toNat
          have si := (hB.out.cell i).trans (arrI_at (by rw [Hul.out]; omega))
          generalize hua : us.getD x.a.toNat 0 = ua at *
          generalize hui : us.getD i 0 = ui at *
          have Hua := Lib.hid hua; have Hui := Lib.hid hui
          clear hua hui
          go_wp2_with fail
          go_region
          generalize hW3 : World.drew _ = w3
          have H3 := Lib.hid hW3.symm; clear hW3
          obtain ⟨us1, hu1⟩ : ∃ us1, us1 = us.set x.a.toNat (ua + ui) := ⟨_, rfl⟩
          have Hu1 := Lib.hid hu1
          have hl1 := Lib.hid (show us1.length = n by rw [hu1, List.length_set]; exact Hul.out)
          have B3 := Lib.hid (show Blk w3 w.heap.size 2 (arrI us1) by rw [H3.out, hu1, ← arrI_set]; exact (hB.out.set_ _ _).drew)
          have bb3 := (show Below w.heap.size w w3 by rw [H3.out]; exact (hb.setCell (by simp) _).drew)
          have ei := Lib.hid (show us1.getD i 0 = ui by rw [hu1, getD_set _ _ _ _ (by rw [Hul.out]; omega), if_neg (by omega)]; exact Hui.out)
          have uB' := uB.out (us1.getD x.b.toNat 0) (by rw [hu1])
          obtain ⟨ub, hub⟩ : ∃ ub, us1.getD x.b.toNat 0 = ub := ⟨_, rfl⟩
          rw [hub] at uB'
          have Hub := Lib.hid hub
          obtain ⟨ub0, ub20⟩ := uB'
          have hw := Lib.hid (show Below w.heap.size wr w3 by rw [H3.out]; exact ((Below.refl _ _).setCell (by simp) _).drew)
          have d0 := (hw.out.cell (p := ⟨b, o + i * 3, none⟩) hBr).trans c0
          have d1 := (hw.out.cell (p := ⟨b, o + i * 3 + 1, none⟩) hBr).trans c1
          have d2 := (hw.out.cell (p := ⟨b, o + i * 3 + 2, none⟩) hBr).trans c2
          have lw3 : wr.heap.size ≤ w3.heap.size := hw.out.size
          have cg3 := (bb3.cell (p := ⟨gb, 0, none⟩) hgb).trans hc
          clear hu1 hub H3 sa fa si c0 c1 c2 cg
          have lb := B3.out.lt
          have sb := (B3.out.cell x.b.toNat).trans (arrI_at (by rw [hl1.out]; omega))
          have fb := B3.out.frozen x.b.toNat
          have si := (B3.out.cell i).trans (arrI_at (by rw [hl1.out]; omega))
          rw [Hub.out] at sb
          rw [ei.out] at si
          have lg3 : gb < w3.heap.size := by omega
          have lb3 : b < w3.heap.size := by omega
          go_wp2_with fail
          go_region
          generalize hW4 : World.drew _ = w4
          have H4 := Lib.hid hW4.symm; clear hW4
          go_wp2_with fail
          go_roundw
          case rel =>
            refine ⟨i, usStep rs us i, by go_num, by omega, ?_, Lib.hid ?_, Lib.hid ?_, Lib.hid hgo.out, Lib.hid nxt.out⟩
            · rw [H4.out]; exact (bb3.setCell (by simp) _).drew
            · rw [H4.out, EA.out]
              unfold usePair
              rw [Hua.out, Hui.out, ← Hu1.out, Hub.out, ← arrI_set]
              exact (B3.out.set_ _ _).drew
            · rw [EA.out, usePair_len]; exact Hul.out
          case measure => simp [intOf] <;> omega
        · have h0' : x.l.size ≠ 0 := by rw [hxl]; show (1 : Nat) ≠ 0; omega
          have EA := Lib.hid (eLet.out h0')
          have e0 := size1 h0'
          have e0' := size1' h0'
          clear b15 b0 hxl hxz hcc
          go_wp2_with fail
          go_roundw
          case rel =>
            refine ⟨i, us, by go_num, by omega, hb, hB, Hul, Lib.hid (by rw [← hgo.out, EA.out]), Lib.hid (by have := nxt.out; rw [EA.out] at this; exact this)⟩
          case measure => simp [intOf] <;> omega
end Go.Proofs.Ytecnkmndmnefdaa


/-
  impl.folded at [2]int: what it makes of a grammar, by the contracts of the two functions that it is handed.
-/
namespace Go.Proofs.Ytecnkmndmnefdaa
open Go.RowKit

structure Ed where
  f : Int
  l : Int
  deriving Inhabited, DecidableEq
def Ed.nil : Ed := ⟨0, 0⟩
def encEd (y : Ed) : List Value := [.int .i64 y.f, .int .i64 y.l]
theorem lenEd (y : Ed) : (encEd y).length = 2 := rfl

end Go.Proofs.Ytecnkmndmnefdaa


/-
  How often letters come behind letters: the table, and what makes it.
-/
namespace Go.Proofs.Ytecnkmndmnefdaa
open Go.RowKit

/-- one fold told by another one -/
theorem full_map {α β : Type} (d : α) (F : Nat → α) (G : α → α → Fac → α) (d' : β) (F' : Nat → β) (G' : β → β → Fac → β) (h : α → β) {rs : List Fac} (hwf : WF rs) (hF : ∀ l, h (F l) = F' l) (hG : ∀ a b r, h (G a b r) = G' (h a) (h b) r) :
    ∀ k, k < rs.length → h ((full d F G rs).getD k d) = (full d' F' G' rs).getD k d' := by
  intro k
  induction k using Nat.strongRecOn with
  | ind k ih =>
    intro hk
    have gx : rs[k]? = some (rs[k]'(by omega)) := List.getElem?_eq_getElem _
    rcases hwf k _ gx with ⟨h0, ha0, ha1, hb0, hb1⟩ | ⟨c, hc, hl, _⟩
    · rw [full_pair d F G hwf gx h0, full_pair d' F' G' hwf gx h0, hG, ih _ (by omega) (by omega), ih _ (by omega) (by omega)]
    · have h0 : (rs[k]'(by omega)).l.size ≠ 0 := by rw [hl]; show (1 : Nat) ≠ 0; omega
      rw [full_let d F G gx h0, full_let d' F' G' gx h0, hF]
def edF (l : Nat) : Int := (l : Int)
def edGf (a _ : Int) (_ : Fac) : Int := a
def edGl (_ b : Int) (_ : Fac) : Int := b
/-- the number of the first letter, of the last letter -/
abbrev edf (rs : List Fac) : List Int := full 0 edF edGf rs
abbrev edl (rs : List Fac) : List Int := full 0 edF edGl rs
theorem ed_b {G : Int → Int → Fac → Int} (hG : ∀ a b r, G a b r = a ∨ G a b r = b) {rs : List Fac} (hwf : WF rs) {k : Nat} (hk : k < rs.length) : 0 ≤ (full 0 edF G rs).getD k 0 ∧ (full 0 edF G rs).getD k 0 < 4 := by
  refine full_ind 0 edF G hwf (fun _ x => 0 ≤ x ∧ x < 4) (fun k r hr h => ?_) (fun k r a b hr h0 h1 h2 h3 h4 ha hb => ?_) k hk
  · have := letN_lt h
    show 0 ≤ ((letN r.l : Nat) : Int) ∧ ((letN r.l : Nat) : Int) < 4
    omega
  · rcases hG a b r with h | h
    · show 0 ≤ G a b r ∧ G a b r < 4
      rw [h]; exact ha
    · show 0 ≤ G a b r ∧ G a b r < 4
      rw [h]; exact hb
theorem edf_b {rs : List Fac} (hwf : WF rs) {k : Nat} (hk : k < rs.length) : 0 ≤ (edf rs).getD k 0 ∧ (edf rs).getD k 0 < 4 := ed_b (fun _ _ _ => .inl rfl) hwf hk
theorem edl_b {rs : List Fac} (hwf : WF rs) {k : Nat} (hk : k < rs.length) : 0 ≤ (edl rs).getD k 0 ∧ (edl rs).getD k 0 < 4 := ed_b (fun _ _ _ => .inr rfl) hwf hk

def Q4.plus (q : Q4) (l : Nat) (v : Int) : Q4 := match l with
  | 0 => ⟨q.a + v, q.b, q.c, q.d⟩
  | 1 => ⟨q.a, q.b + v, q.c, q.d⟩
  | 2 => ⟨q.a, q.b, q.c + v, q.d⟩
  | _ => ⟨q.a, q.b, q.c, q.d + v⟩
def Q4.sum (q : Q4) : Int := q.a + q.b + q.c + q.d
theorem Q4.plus_sum (q : Q4) (l : Nat) (v : Int) : (q.plus l v).sum = q.sum + v := by
  match l with
  | 0 => simp [Q4.plus, Q4.sum]; omega
  | 1 => simp [Q4.plus, Q4.sum]; omega
  | 2 => simp [Q4.plus, Q4.sum]; omega
  | _ + 3 => simp [Q4.plus, Q4.sum]; omega
theorem Q4.plus_set (q : Q4) {l : Nat} (h : l < 4) (v : Int) : ((encQ4 q).toArray).setIfInBounds l (.int .i64 (q.at_ l + v)) = (encQ4 (q.plus l v)).toArray := by
  match l, h with
  | 0, _ => rfl
  | 1, _ => rfl
  | 2, _ => rfl
  | 3, _ => rfl
def Q4.bd (q : Q4) (m : Int) : Prop := ∀ j, 0 ≤ q.at_ j ∧ q.at_ j ≤ m
theorem Q4.plus_bd {q : Q4} {m v : Int} (h : q.bd m) (l : Nat) (h0 : 0 ≤ v) : (q.plus l v).bd (m + v) := by
  intro j
  have h1 : 0 ≤ q.a ∧ q.a ≤ m := h 0
  have h2 : 0 ≤ q.b ∧ q.b ≤ m := h 1
  have h3 : 0 ≤ q.c ∧ q.c ≤ m := h 2
  have h4 : 0 ≤ q.d ∧ q.d ≤ m := h 3
  match l with
  | 0 => match j with
    | 0 => show 0 ≤ q.a + v ∧ q.a + v ≤ m + v; omega
    | 1 => show 0 ≤ q.b ∧ q.b ≤ m + v; omega
    | 2 => show 0 ≤ q.c ∧ q.c ≤ m + v; omega
    | _ + 3 => show 0 ≤ q.d ∧ q.d ≤ m + v; omega
  | 1 => match j with
    | 0 => show 0 ≤ q.a ∧ q.a ≤ m + v; omega
    | 1 => show 0 ≤ q.b + v ∧ q.b + v ≤ m + v; omega
    | 2 => show 0 ≤ q.c ∧ q.c ≤ m + v; omega
    | _ + 3 => show 0 ≤ q.d ∧ q.d ≤ m + v; omega
  | 2 => match j with
    | 0 => show 0 ≤ q.a ∧ q.a ≤ m + v; omega
    | 1 => show 0 ≤ q.b ∧ q.b ≤ m + v; omega
    | 2 => show 0 ≤ q.c + v ∧ q.c + v ≤ m + v; omega
    | _ + 3 => show 0 ≤ q.d ∧ q.d ≤ m + v; omega
  | _ + 3 => match j with
    | 0 => show 0 ≤ q.a ∧ q.a ≤ m + v; omega
    | 1 => show 0 ≤ q.b ∧ q.b ≤ m + v; omega
    | 2 => show 0 ≤ q.c ∧ q.c ≤ m + v; omega
    | _ + 3 => show 0 ≤ q.d + v ∧ q.d + v ≤ m + v; omega
def addT (qs : List Q4) (k l : Nat) (v : Int) : List Q4 := qs.set k ((qs.getD k Q4.nil).plus l v)
def pcT (rs : List Fac) : Nat → List Q4
  | 0 => [Q4.nil, Q4.nil, Q4.nil, Q4.nil]
  | i + 1 => if (rs.getD i default).l.size = 0 then addT (pcT rs i) ((edl rs).getD (rs.getD i default).a.toNat 0).toNat ((edf rs).getD (rs.getD i default).b.toNat 0).toNat ((usesOf rs).getD i 0) else pcT rs i
/-- how often each letter comes right behind each one -/
abbrev pcAll (rs : List Fac) : List Q4 := pcT rs rs.length
theorem pcT_len (rs : List Fac) : ∀ i, (pcT rs i).length = 4
  | 0 => rfl
  | i + 1 => by
    unfold pcT
    split
    · unfold addT; rw [List.length_set]; exact pcT_len rs i
    · exact pcT_len rs i
theorem pcT_pair {rs : List Fac} {i : Nat} {r : Fac} (h : rs[i]? = some r) (h0 : r.l.size = 0) : pcT rs (i + 1) = addT (pcT rs i) ((edl rs).getD r.a.toNat 0).toNat ((edf rs).getD r.b.toNat 0).toNat ((usesOf rs).getD i 0) := by
  show (if (rs.getD i default).l.size = 0 then _ else _) = _
  rw [fac_getD h, if_pos h0]
theorem pcT_let {rs : List Fac} {i : Nat} {r : Fac} (h : rs[i]? = some r) (h0 : r.l.size ≠ 0) : pcT rs (i + 1) = pcT rs i := by
  show (if (rs.getD i default).l.size = 0 then _ else _) = _
  rw [fac_getD h, if_neg h0]
theorem qgetD_set (qs : List Q4) (k j : Nat) (q : Q4) (hk : k < qs.length) : (qs.set k q).getD j Q4.nil = if j = k then q else qs.getD j Q4.nil := by
  rw [List.getD_eq_getElem?_getD, List.getD_eq_getElem?_getD, List.getElem?_set]
  by_cases h : k = j
  · subst h; simp [hk]
  · rw [if_neg h, if_neg (fun e => h e.symm)]
theorem pcT_bd {rs : List Fac} {ls : List Int} (hls : gLens rs [] = some ls) (hll : ls.length = rs.length) : ∀ i, i ≤ rs.length → ∀ k, ((pcT rs i).getD k Q4.nil).bd (1000000000000000 * i)
  | 0, _, k => by
    have : (pcT rs 0).getD k Q4.nil = Q4.nil := by
      match k with
      | 0 => rfl
      | 1 => rfl
      | 2 => rfl
      | 3 => rfl
      | _ + 4 => rfl
    rw [this]
    intro j
    match j with
    | 0 => exact ⟨Int.le_refl _, by simp [Q4.at_, Q4.nil]⟩
    | 1 => exact ⟨Int.le_refl _, by simp [Q4.at_, Q4.nil]⟩
    | 2 => exact ⟨Int.le_refl _, by simp [Q4.at_, Q4.nil]⟩
    | _ + 3 => exact ⟨Int.le_refl _, by simp [Q4.at_, Q4.nil]⟩
  | i + 1, hi, k => by
    have ih := pcT_bd hls hll i (by omega)
    have U := uses_inv hls hll (by omega)
    have u1 := U.nn i
    have u2 := U.bd i
    have up : ∀ {q : Q4} {m m' : Int}, q.bd m → m ≤ m' → q.bd m' := fun h h2 j => by have := h j; omega
    unfold pcT
    split
    · unfold addT
      by_cases hk : ((edl rs).getD (rs.getD i default).a.toNat 0).toNat < 4
      · rw [qgetD_set _ _ _ _ (by rw [pcT_len]; exact hk)]
        split
        · exact up (Q4.plus_bd (ih _) _ u1) (by omega)
        · exact up (ih k) (by omega)
      · rw [List.set_eq_of_length_le (by rw [pcT_len]; omega)]
        exact up (ih k) (by omega)
    · exact up (ih k) (by omega)
def totT (qs : List Q4) : Int := ((qs.getD 0 Q4.nil).sum + (qs.getD 1 Q4.nil).sum) + ((qs.getD 2 Q4.nil).sum + (qs.getD 3 Q4.nil).sum)
theorem totT_add (qs : List Q4) (hq : qs.length = 4) {k : Nat} (hk : k < 4) (l : Nat) (v : Int) : totT (addT qs k l v) = totT qs + v := by
  unfold totT addT
  rw [qgetD_set _ _ _ _ (by omega), qgetD_set _ _ _ _ (by omega), qgetD_set _ _ _ _ (by omega), qgetD_set _ _ _ _ (by omega)]
  match k, hk with
  | 0, _ => simp [Q4.plus_sum]; omega
  | 1, _ => simp [Q4.plus_sum]; omega
  | 2, _ => simp [Q4.plus_sum]; omega
  | 3, _ => simp [Q4.plus_sum]; omega
theorem pcT_tot {rs : List Fac} (hwf : WF rs) : ∀ i, i ≤ rs.length → totT (pcT rs i) = sumTo (useP rs (usesOf rs)) i
  | 0, _ => rfl
  | i + 1, hi => by
    have ih := pcT_tot hwf i (by omega)
    have gx : rs[i]? = some (rs[i]'(by omega)) := List.getElem?_eq_getElem _
    show _ = sumTo (useP rs (usesOf rs)) i + useP rs (usesOf rs) i
    unfold useP
    rw [fac_getD gx]
    rcases hwf i _ gx with ⟨h0, ha0, ha1, hb0, hb1⟩ | ⟨c, hc, hl, _⟩
    · rw [pcT_pair gx h0, if_pos h0, totT_add _ (pcT_len _ _) (by have := edl_b hwf (k := (rs[i]'(by omega)).a.toNat) (by omega); omega), ih]; rfl
    · have h0 : (rs[i]'(by omega)).l.size ≠ 0 := by rw [hl]; show (1 : Nat) ≠ 0; omega
      rw [pcT_let gx h0, if_neg h0, ih]; unfold useP; omega
/-- all pairs of letters: one less than letters -/
theorem pc_total {rs : List Fac} {ls : List Int} (hls : gLens rs [] = some ls) (hll : ls.length = rs.length) (h0 : 0 < rs.length) : totT (pcAll rs) = lastI ls - 1 := by
  rw [pcT_tot (wf_of hls) _ (Nat.le_refl _), uses_pairs hls hll h0]

/-- the rows of a table, which lie apart -/
def PTab (w : World) (base : Nat) (gs : List Nat) (qs : List Q4) : Prop := RowsOk w base gs qs ∧ ∀ (i j g : Nat), gs[i]? = some g → gs[j]? = some g → i = j
theorem PTab.below {w w' : World} {base : Nat} {gs : List Nat} {qs : List Q4} (h : PTab w base gs qs) (hb : Below w.heap.size w w') : PTab w' base gs qs :=
  ⟨⟨h.1.1, fun i g hg => ⟨(h.1.2 i g hg).1, (h.1.2 i g hg).2.next hb⟩⟩, h.2⟩
theorem PTab.at_ {w : World} {base : Nat} {gs : List Nat} {qs : List Q4} (h : PTab w base gs qs) {k g : Nat} (hg : gs[k]? = some g) {l : Nat} (hl : l < 4) : w.cell? ⟨g, l, none⟩ = some (.int .i64 ((qs.getD k Q4.nil).at_ l)) := by
  rw [(h.1.2 k g hg).2.cell l]
  simpa using encQ4_at (qs.getD k Q4.nil) hl
theorem PTab.set_ {w : World} {base : Nat} {gs : List Nat} {qs : List Q4} (h : PTab w base gs qs) {k g : Nat} (hg : gs[k]? = some g) {l : Nat} (hl : l < 4) (v : Int) :
    PTab (w.setCell ⟨g, l, none⟩ (.int .i64 ((qs.getD k Q4.nil).at_ l + v))) base gs (addT qs k l v) := by
  have hk : k < qs.length := by rw [← h.1.1]; exact (List.getElem?_eq_some_iff.1 hg).1
  refine ⟨⟨by unfold addT; rw [List.length_set]; exact h.1.1, fun i p hp => ⟨(h.1.2 i p hp).1, ?_⟩⟩, h.2⟩
  unfold addT
  rw [qgetD_set _ _ _ _ hk]
  by_cases hi : i = k
  · subst hi
    obtain rfl : g = p := Option.some.inj (hg.symm.trans hp)
    rw [if_pos rfl, ← Q4.plus_set _ hl]
    exact (h.1.2 i g hg).2.set_ l _
  · rw [if_neg hi]
    exact (h.1.2 i p hp).2.far (fun e => hi (by
      have e : p = g := e
      subst e
      exact h.2 i k p hp hg)) _
/-- what the makers of the table leave -/
def RetPT (w0 : World) (qs : List Q4) (e : Ending) (w' : World) : Prop :=
  ∃ A c gs, e = .returned (.slice A qs.length c) ∧ w'.ownsRow w0.heap.size 32 1 (.slice A qs.length c) qs.length (gs.flatMap encG) ∧ PTab w' w0.heap.size gs qs ∧ Below w0.heap.size w0 w'
/-- one row more -/
theorem PTab.push {w w9 : World} {k c' g : Nat} {A' : Option Addr} {gs : List Nat} {qs : List Q4} {q : Q4} {base : Nat} (h : PTab w base gs qs) (hk : qs.length = k) (hO : w.ownsRow base 32 1 (.slice A' k c') k (gs.flatMap encG))
    (BL : Blk w g 2 (encQ4 q).toArray) (hg : base ≤ g) (hn : ∀ (i p : Nat), gs[i]? = some p → p < g) (o : Obj) (hg9 : (w.alloc o).grownBy w9 (Value.slice A' k c').ownBlock) : PTab w9 base (gs ++ [g]) (qs ++ [q]) := by
  refine ⟨rows_push (hO.alloc o) h.1 hk BL hg (fun _ _ _ hB => hB.alloc o) hg9, fun i j p hi hj => ?_⟩
  have lt : ∀ i, (gs ++ [g])[i]? = some p → i < gs.length ∧ gs[i]? = some p ∨ i = gs.length ∧ p = g := fun i hi => by
    by_cases h1 : i < gs.length
    · exact .inl ⟨h1, by rwa [List.getElem?_append_left h1] at hi⟩
    · have h2 := (List.getElem?_eq_some_iff.1 hi).1
      simp at h2
      have h3 : i = gs.length := by omega
      subst h3
      rw [List.getElem?_append_right (by omega)] at hi
      exact .inr ⟨rfl, by simpa using hi.symm⟩
  rcases lt i hi with ⟨a1, a2⟩ | ⟨a1, a2⟩ <;> rcases lt j hj with ⟨b1, b2⟩ | ⟨b1, b2⟩
  · exact h.2 i j p a2 b2
  · have := hn i p a2; omega
  · have := hn j p b2; omega
  · omega
end Go.Proofs.Ytecnkmndmnefdaa


/-
  How often letters come behind letters: in the program.
-/
namespace Go.Proofs.Ytecnkmndmnefdaa
open Go.RowKit

def edgF (l : Nat) : Ed := ⟨(l : Int), (l : Int)⟩
def edgG (a b : Ed) (_ : Fac) : Ed := ⟨a.f, b.l⟩
abbrev edgAll (rs : List Fac) : List Ed := full Ed.nil edgF edgG rs
theorem edg_f {rs : List Fac} (hwf : WF rs) {k : Nat} (hk : k < rs.length) : ((edgAll rs).getD k Ed.nil).f = (edf rs).getD k 0 :=
  full_map Ed.nil edgF edgG 0 edF edGf Ed.f hwf (fun _ => rfl) (fun _ _ _ => rfl) k hk
theorem edg_l {rs : List Fac} (hwf : WF rs) {k : Nat} (hk : k < rs.length) : ((edgAll rs).getD k Ed.nil).l = (edl rs).getD k 0 :=
  full_map Ed.nil edgF edgG 0 edF edGl Ed.l hwf (fun _ => rfl) (fun _ _ _ => rfl) k hk
/-- rows that are empty yet -/
def zT (k : Nat) : List Q4 := List.replicate k Q4.nil
theorem zT_succ (k : Nat) : zT (k + 1) = zT k ++ [Q4.nil] := by unfold zT; rw [List.replicate_succ']
theorem PTab.lt {w : World} {base : Nat} {gs : List Nat} {qs : List Q4} (h : PTab w base gs qs) : ∀ (i p : Nat), gs[i]? = some p → p < w.heap.size := fun i p hi => (h.1.2 i p hi).2.lt
theorem PTab.next {w w' : World} {base : Nat} {gs : List Nat} {qs : List Q4} (h : PTab w base gs qs) (hb : Below w.heap.size w w') : PTab w' base gs qs := h.below hb
theorem PTab.drew {w : World} {base : Nat} {gs : List Nat} {qs : List Q4} (h : PTab w base gs qs) : PTab w.drew base gs qs := h
/-- other rows stay as they are when a row is written -/
theorem own_row_set {w : World} {base e size n g l : Nat} {v : Value} {xs : List Value} {cs : Array Value} (h : w.ownsRow base e size v n xs) (hg : Blk w g 2 cs) (hne : e ≠ 2) (u : Value) : (w.setCell ⟨g, l, none⟩ u).ownsRow base e size v n xs :=
  Go.ownsRow_setCell_other h (fun he => own_blk_ne h hg hne he.symm) u
theorem own_ne_ty {w : World} {b1 b2 e1 e2 s1 s2 n1 n2 : Nat} {v1 v2 : Value} {xs1 xs2 : List Value} (h1 : w.ownsRow b1 e1 s1 v1 n1 xs1) (h2 : w.ownsRow b2 e2 s2 v2 n2 xs2) (hne : e1 ≠ e2) : v1.ownBlock = none ∨ v1.ownBlock ≠ v2.ownBlock := by
  rcases h1.2 with ⟨rfl, _⟩ | ⟨g1, c1, u1, rfl, _, hh1, _⟩
  · left; rfl
  · right
    rcases h2.2 with ⟨rfl, _⟩ | ⟨g2, c2, u2, rfl, _, hh2, _⟩
    · simp [Value.ownBlock]
    · intro he
      have hg : g1 = g2 := by simpa [Value.ownBlock] using he
      subst hg
      rw [hh1] at hh2
      injection hh2 with hh2
      injection hh2 with _ ht
      exact hne ht
/-- the table under way, and the list of uses -/
structure PInv (w : World) (bu B : Nat) (Au : Option Addr) (n cu : Nat) (us : List Int) (A' : Option Addr) (k c' : Nat) (gs : List Nat) (qs : List Q4) (w' : World) : Prop where
  hb : Below w.heap.size w w'
  lo : w.heap.size ≤ B
  sz : B ≤ w'.heap.size
  ou : w'.ownsRow bu 2 1 (.slice Au n cu) n (us.flatMap intE)
  ub : ∀ p, (Value.slice Au n cu).ownBlock = some p → p < B
  o : w'.ownsRow w.heap.size 32 1 (.slice A' k c') k (gs.flatMap encG)
  q : PTab w' B gs qs
  len : qs.length = k
theorem PInv.next {w w1 w2 : World} {bu B : Nat} {Au : Option Addr} {n cu : Nat} {us : List Int} {A' : Option Addr} {k c' : Nat} {gs : List Nat} {qs : List Q4} (h : PInv w bu B Au n cu us A' k c' gs qs w1) (hb : Below w1.heap.size w1 w2) : PInv w bu B Au n cu us A' k c' gs qs w2 :=
  ⟨h.hb.trans (hb.mono h.hb.size), h.lo, Nat.le_trans h.sz hb.size, own_next h.ou hb, h.ub, own_next h.o hb, h.q.next hb, h.len⟩
theorem PInv.set_ {w w1 : World} {bu B : Nat} {Au : Option Addr} {n cu : Nat} {us : List Int} {A' : Option Addr} {k c' : Nat} {gs : List Nat} {qs : List Q4} (h : PInv w bu B Au n cu us A' k c' gs qs w1) {i g l : Nat} (hg : gs[i]? = some g) (hl : l < 4) (v : Int) :
    PInv w bu B Au n cu us A' k c' gs (addT qs i l v) (w1.setCell ⟨g, l, none⟩ (.int .i64 ((qs.getD i Q4.nil).at_ l + v))).drew := by
  have r := h.q.1.2 i g hg
  refine ⟨(h.hb.setCell (Nat.le_trans h.lo r.1) _).drew, h.lo, by simpa using h.sz, (Go.ownsRow_setCell_other h.ou (fun e => by have := h.ub _ e; have := r.1; simp at *; omega) _).drew, h.ub, (own_row_set h.o r.2 (by decide) _).drew, (h.q.set_ hg hl v).drew, by unfold addT; rw [List.length_set]; exact h.len⟩
theorem PInv.push {w wr w9 : World} {bu B : Nat} {Au : Option Addr} {n cu : Nat} {us : List Int} {A' A9 : Option Addr} {k c' c9 : Nat} {gs : List Nat} {qs : List Q4} {o : Obj} (h : PInv w bu B Au n cu us A' k c' gs qs wr)
    (own9 : w9.ownsRow w.heap.size 32 1 (.slice A9 (k + 1) c9) (k + 1) ((gs ++ [wr.heap.size]).flatMap encG))
    (hg9 : ((wr.alloc (.cells (encQ4 Q4.nil).toArray 2)).alloc o).grownBy w9 (Value.slice A' k c').ownBlock) : PInv w bu B Au n cu us A9 (k + 1) c9 (gs ++ [wr.heap.size]) (qs ++ [Q4.nil]) w9 := by
  have b0 := h.hb.size
  have hs : ((wr.alloc (.cells (encQ4 Q4.nil).toArray 2)).alloc o).heap.size = wr.heap.size + 2 := by simp
  refine ⟨((h.hb.alloc b0 _).alloc (by simp; omega) _).grown hg9 (by rw [hs]; omega) (own_ge h.o), h.lo, ?_, ?_, h.ub, own9, ?_, by rw [List.length_append]; simp [h.len]⟩
  · have := hg9.size; have := h.sz; omega
  · exact ((h.ou.alloc _).alloc _).kept hg9 (own_ne_ty h.ou h.o (by decide))
  · have P := PTab.push (w := wr.alloc (.cells (encQ4 Q4.nil).toArray 2)) (base := w.heap.size) (gs := gs) (qs := qs) ⟨⟨h.q.1.1, fun i g hg => ⟨Nat.le_trans h.lo (h.q.1.2 i g hg).1, (h.q.1.2 i g hg).2.alloc _⟩⟩, h.q.2⟩ h.len (h.o.alloc _) (Blk.new wr _ _) b0 h.q.lt o hg9
    refine ⟨⟨P.1.1, fun i g hg => ⟨?_, (P.1.2 i g hg).2⟩⟩, P.2⟩
    by_cases h1 : i < gs.length
    · rw [List.getElem?_append_left h1] at hg
      exact (h.q.1.2 i g hg).1
    · rw [List.getElem?_append_right (by omega)] at hg
      have h2 := (List.getElem?_eq_some_iff.1 hg).1
      rw [show i - gs.length = 0 by simp at h2; omega] at hg
      have : wr.heap.size = g := by simpa using hg
      rw [← this]; exact h.sz
theorem PInv.blk {w wr w9 : World} {bu B : Nat} {Au : Option Addr} {n cu : Nat} {us : List Int} {A' : Option Addr} {k c' : Nat} {gs : List Nat} {qs : List Q4} {o1 o2 : Obj} (h : PInv w bu B Au n cu us A' k c' gs qs wr) {g : Nat} {t : TypeId} {cs : Array Value} (hB : Blk wr g t cs) (ht : 32 ≠ t)
    (hg9 : ((wr.alloc o1).alloc o2).grownBy w9 (Value.slice A' k c').ownBlock) : Blk w9 g t cs :=
  ((hB.alloc _).alloc _).grown hg9 (own_blk_ne h.o hB ht)
theorem PInv.ret {w w1 : World} {bu B : Nat} {Au : Option Addr} {n cu : Nat} {us : List Int} {A' : Option Addr} {c' : Nat} {gs : List Nat} {rs : List Fac} (h : PInv w bu B Au n cu us A' 4 c' gs (pcT rs rs.length) w1) : RetPT w (pcAll rs) (.returned (.slice A' 4 c')) w1 := by
  refine ⟨A', c', gs, ret_slice (pcT_len _ _).symm, ?_, ⟨⟨h.q.1.1, fun i g hg => ⟨Nat.le_trans h.lo (h.q.1.2 i g hg).1, (h.q.1.2 i g hg).2⟩⟩, h.q.2⟩, h.hb⟩
  rw [pcT_len]; exact h.o
end Go.Proofs.Ytecnkmndmnefdaa


/-
  How often letters come behind letters: in the reference.
-/
namespace Go.Proofs.Ytecnkmndmnefdaa
open Go.RowKit

/-- two lists of numbers that grow -/
structure Two (w : World) (A1 : Option Addr) (k1 c1 : Nat) (xs1 : List Int) (A2 : Option Addr) (k2 c2 : Nat) (xs2 : List Int) (w' : World) : Prop where
  hb : Below w.heap.size w w'
  o1 : w'.ownsRow w.heap.size 2 1 (.slice A1 k1 c1) k1 (xs1.flatMap intE)
  o2 : w'.ownsRow w.heap.size 2 1 (.slice A2 k2 c2) k2 (xs2.flatMap intE)
  ne : ∀ p, (Value.slice A1 k1 c1).ownBlock = some p → (Value.slice A2 k2 c2).ownBlock ≠ some p
theorem Two.next {w w1 w2 : World} {A1 A2 : Option Addr} {k1 c1 k2 c2 : Nat} {xs1 xs2 : List Int} (h : Two w A1 k1 c1 xs1 A2 k2 c2 xs2 w1) (hb : Below w1.heap.size w1 w2) : Two w A1 k1 c1 xs1 A2 k2 c2 xs2 w2 :=
  ⟨h.hb.trans (hb.mono h.hb.size), own_next h.o1 hb, own_next h.o2 hb, h.ne⟩
theorem Two.swap {w w1 : World} {A1 A2 : Option Addr} {k1 c1 k2 c2 : Nat} {xs1 xs2 : List Int} (h : Two w A1 k1 c1 xs1 A2 k2 c2 xs2 w1) : Two w A2 k2 c2 xs2 A1 k1 c1 xs1 w1 :=
  ⟨h.hb, h.o2, h.o1, fun p h2 h1 => h.ne p h1 h2⟩
theorem Two.push {w wr w9 : World} {A1 A2 A9 : Option Addr} {k1 c1 k2 c2 c9 : Nat} {xs1 xs2 : List Int} {o : Obj} {v : Int} (h : Two w A1 k1 c1 xs1 A2 k2 c2 xs2 wr)
    (own9 : w9.ownsRow w.heap.size 2 1 (.slice A9 (k1 + 1) c9) (k1 + 1) ((xs1 ++ [v]).flatMap intE))
    (hg9 : (wr.alloc o).grownBy w9 (Value.slice A1 k1 c1).ownBlock)
    (hat9 : (Value.slice A9 (k1 + 1) c9).ownBlock = (Value.slice A1 k1 c1).ownBlock ∨ (Value.slice A9 (k1 + 1) c9).ownBlock = some (wr.alloc o).heap.size) : Two w A9 (k1 + 1) c9 (xs1 ++ [v]) A2 k2 c2 xs2 w9 := by
  have b0 := h.hb.size
  refine ⟨(h.hb.alloc b0 _).grown hg9 (by simp; omega) (own_ge h.o1), own9, (h.o2.alloc _).kept hg9 ?_, fun p hp => ?_⟩
  · cases hv : (Value.slice A2 k2 c2).ownBlock with
    | none => exact .inl rfl
    | some q => exact .inr fun e => h.ne q e.symm hv
  · rcases hat9 with e | e
    · exact h.ne p (e.symm.trans hp)
    · intro e2
      rw [hp] at e
      have := (h.o2.lt p e2).2
      injection e with e
      simp at e
      omega
/-- what 'l05Edges' leaves -/
def RetTwo (w : World) (xs ys : List Int) (e : Ending) (w' : World) : Prop :=
  ∃ A1 c1 A2 c2, e = .returned (.tuple #[.slice A1 xs.length c1, .slice A2 ys.length c2]) ∧ w'.ownsRow w.heap.size 2 1 (.slice A1 xs.length c1) xs.length (xs.flatMap intE) ∧ w'.ownsRow w.heap.size 2 1 (.slice A2 ys.length c2) ys.length (ys.flatMap intE) ∧ Below w.heap.size w w'
/-- the table under way -/
structure PTin (w : World) (A' : Option Addr) (k c' : Nat) (gs : List Nat) (qs : List Q4) (w' : World) : Prop where
  hb : Below w.heap.size w w'
  o : w'.ownsRow w.heap.size 32 1 (.slice A' k c') k (gs.flatMap encG)
  q : PTab w' w.heap.size gs qs
  len : qs.length = k
theorem PTin.next {w w1 w2 : World} {A' : Option Addr} {k c' : Nat} {gs : List Nat} {qs : List Q4} (h : PTin w A' k c' gs qs w1) (hb : Below w1.heap.size w1 w2) : PTin w A' k c' gs qs w2 :=
  ⟨h.hb.trans (hb.mono h.hb.size), own_next h.o hb, h.q.next hb, h.len⟩
theorem PTin.set_ {w w1 : World} {A' : Option Addr} {k c' : Nat} {gs : List Nat} {qs : List Q4} (h : PTin w A' k c' gs qs w1) {i g l : Nat} (hg : gs[i]? = some g) (hl : l < 4) (v : Int) :
    PTin w A' k c' gs (addT qs i l v) (w1.setCell ⟨g, l, none⟩ (.int .i64 ((qs.getD i Q4.nil).at_ l + v))) := by
  have r := h.q.1.2 i g hg
  exact ⟨h.hb.setCell r.1 _, own_row_set h.o r.2 (by decide) _, h.q.set_ hg hl v, by unfold addT; rw [List.length_set]; exact h.len⟩
theorem PTin.push {w wr w9 : World} {A' A9 : Option Addr} {k c' c9 : Nat} {gs : List Nat} {qs : List Q4} {o : Obj} (h : PTin w A' k c' gs qs wr)
    (own9 : w9.ownsRow w.heap.size 32 1 (.slice A9 (k + 1) c9) (k + 1) ((gs ++ [wr.heap.size]).flatMap encG))
    (hg9 : ((wr.alloc (.cells (encQ4 Q4.nil).toArray 2)).alloc o).grownBy w9 (Value.slice A' k c').ownBlock) : PTin w A9 (k + 1) c9 (gs ++ [wr.heap.size]) (qs ++ [Q4.nil]) w9 := by
  have b0 := h.hb.size
  have hs : ((wr.alloc (.cells (encQ4 Q4.nil).toArray 2)).alloc o).heap.size = wr.heap.size + 2 := by simp
  refine ⟨((h.hb.alloc b0 _).alloc (by simp; omega) _).grown hg9 (by rw [hs]; omega) (own_ge h.o), own9, ?_, by rw [List.length_append]; simp [h.len]⟩
  exact PTab.push (w := wr.alloc (.cells (encQ4 Q4.nil).toArray 2)) (base := w.heap.size) (gs := gs) (qs := qs) ⟨⟨h.q.1.1, fun i g hg => ⟨(h.q.1.2 i g hg).1, (h.q.1.2 i g hg).2.alloc _⟩⟩, h.q.2⟩ h.len (h.o.alloc _) (Blk.new wr _ _) b0 h.q.lt o hg9
theorem PTin.ret {w w1 : World} {A' : Option Addr} {c' : Nat} {gs : List Nat} {rs : List Fac} (h : PTin w A' 4 c' gs (pcT rs rs.length) w1) : RetPT w (pcAll rs) (.returned (.slice A' 4 c')) w1 := by
  refine ⟨A', c', gs, ret_slice (pcT_len _ _).symm, ?_, h.q, h.hb⟩
  rw [pcT_len]; exact h.o
theorem own_cell {w : World} {base n c : Nat} {A : Option Addr} {xs : List Int} (h : w.ownsRow base 2 1 (.slice A n c) n (xs.flatMap intE)) (hl : xs.length = n) {i : Nat} (hi : i < n) :
    ∃ g, A = some ⟨g, 0, none⟩ ∧ base ≤ g ∧ g < w.heap.size ∧ w.cell? ⟨g, i, none⟩ = some (.int .i64 (xs.getD i 0)) := by
  obtain ⟨g, cp, hv, h1, h2⟩ := h.form (by omega)
  obtain rfl : A = some ⟨g, 0, none⟩ := by injection hv
  refine ⟨g, rfl, h1, h2, ?_⟩
  have := own_at (sz := 1) (enc := intE) (fun _ _ => rfl) h hl 0 i hi 0 (by omega)
  rw [Nat.mul_one, Nat.add_zero] at this; exact this
end Go.Proofs.Ytecnkmndmnefdaa


/-
  The number of runs: in the program and in the reference.
-/
namespace Go.Proofs.Ytecnkmndmnefdaa
open Go.RowKit

def offA (qs : List Q4) (k l : Nat) : Int := if k = l then 0 else (qs.getD k Q4.nil).at_ l
def rowOff (qs : List Q4) (k : Nat) : Int := sumTo (offA qs k) 4
def diagA (qs : List Q4) (k : Nat) : Int := (qs.getD k Q4.nil).at_ k
theorem off_diag (qs : List Q4) : sumTo (rowOff qs) 4 + sumTo (diagA qs) 4 = totT qs := by
  simp only [sumTo, rowOff, offA, diagA, totT, Q4.sum, Q4.at_, if_true, show ¬ (0 : Nat) = 1 by omega, show ¬ (0 : Nat) = 2 by omega, show ¬ (0 : Nat) = 3 by omega, show ¬ (1 : Nat) = 0 by omega, show ¬ (1 : Nat) = 2 by omega, show ¬ (1 : Nat) = 3 by omega,
    show ¬ (2 : Nat) = 0 by omega, show ¬ (2 : Nat) = 1 by omega, show ¬ (2 : Nat) = 3 by omega, show ¬ (3 : Nat) = 0 by omega, show ¬ (3 : Nat) = 1 by omega, show ¬ (3 : Nat) = 2 by omega, if_false]
  omega
def runsN (rs : List Fac) : Int := if rs.length = 0 then 0 else 1 + sumTo (rowOff (pcAll rs)) 4
theorem runs_spec {rs : List Fac} {ls : List Int} (hls : gLens rs [] = some ls) (hll : ls.length = rs.length) : lastI ls - sumTo (diagA (pcAll rs)) 4 = runsN rs := by
  unfold runsN
  split
  · rename_i h
    have h1 := List.eq_nil_of_length_eq_zero h
    subst h1
    have h2 := List.eq_nil_of_length_eq_zero hll
    subst h2
    rfl
  · have := off_diag (pcAll rs)
    rw [pc_total hls hll (by omega)] at this
    omega
def runsV (rs : List Fac) : Value := if (gOk rs).isSome = false then tup2 0 1 else tup2 (runsN rs) 0
theorem runsV_form (rs : List Fac) : ∃ b k, runsV rs = .tuple #[.int .i64 b, .int .i64 k] := by
  unfold runsV
  split
  · exact ⟨_, _, rfl⟩
  · exact ⟨_, _, rfl⟩
theorem runsV1 {rs : List Fac} (h : (gOk rs).isSome = false) : runsV rs = tup2 0 1 := by unfold runsV; rw [if_pos h]
theorem runsV2 {rs : List Fac} (h : (gOk rs).isSome = true) : runsV rs = tup2 (runsN rs) 0 := by unfold runsV; rw [if_neg (by rw [h]; decide)]
theorem offA_b {rs : List Fac} {ls : List Int} (hls : gLens rs [] = some ls) (hll : ls.length = rs.length) (hn : rs.length ≤ 400) (k l : Nat) : 0 ≤ ((pcAll rs).getD k Q4.nil).at_ l ∧ ((pcAll rs).getD k Q4.nil).at_ l ≤ 400000000000000000 := by
  have := pcT_bd hls hll rs.length (Nat.le_refl _) k l
  exact ⟨this.1, Int.le_trans this.2 (by omega)⟩
end Go.Proofs.Ytecnkmndmnefdaa


/-
  What rules add, each as often as it is met; the pairs of letters of a word.
-/
namespace Go.Proofs.Ytecnkmndmnefdaa

theorem sum_one (n a : Nat) (v : Int) (f : Nat → Int) (h : a < n) : sumTo (fun j => (if j = a then v else 0) * f j) n = v * f a := by
  rw [sumTo_upd (g := fun _ => 0) a h (fun j _ hne => by simp [hne]), sumTo_zero (fun _ _ => rfl)]
  simp
theorem use_go {rs : List Fac} (hwf : WF rs) (c dl : Nat → Int) (hp : ∀ (i : Nat) (r : Fac), rs[i]? = some r → r.l.size = 0 → c i = c r.a.toNat + c r.b.toNat + dl i)
    (hl : ∀ (i : Nat) (r : Fac), rs[i]? = some r → r.l.size ≠ 0 → c i = 0 ∧ dl i = 0) (T : Int) :
    ∀ (m : Nat) (us : List Int), m ≤ rs.length → us.length = rs.length → sumTo (fun j => us.getD j 0 * c j) m + (sumTo (fun j => us.getD j 0 * dl j) rs.length - sumTo (fun j => us.getD j 0 * dl j) m) = T →
      sumTo (fun j => (useGo rs m us).getD j 0 * dl j) rs.length = T
  | 0, us, _, _, h => by
    have e1 : sumTo (fun j => us.getD j 0 * c j) 0 = 0 := rfl
    have e2 : sumTo (fun j => us.getD j 0 * dl j) 0 = 0 := rfl
    show sumTo (fun j => us.getD j 0 * dl j) rs.length = T
    omega
  | i + 1, us, hm, hlen, h => by
    have hr : rs[i]? = some rs[i] := List.getElem?_eq_getElem (by omega)
    have e1 : sumTo (fun j => us.getD j 0 * c j) (i + 1) = sumTo (fun j => us.getD j 0 * c j) i + us.getD i 0 * c i := rfl
    have e2 : sumTo (fun j => us.getD j 0 * dl j) (i + 1) = sumTo (fun j => us.getD j 0 * dl j) i + us.getD i 0 * dl i := rfl
    show sumTo (fun j => (useGo rs i (usStep rs us i)).getD j 0 * dl j) rs.length = T
    unfold usStep
    rw [fac_getD hr]
    rcases hwf i _ hr with ⟨h0, a0, a1, b0, b1⟩ | ⟨u, _, hlu, _, _⟩
    · rw [if_pos h0]
      have hc := hp i _ hr h0
      refine use_go hwf c dl hp hl T i _ (by omega) (by rw [usePair_len]; exact hlen) ?_
      have hat := usePair_at (us := us) (a := rs[i].a.toNat) (b := rs[i].b.toNat) (i := i) (by omega) (by omega)
      have s1 : sumTo (fun j => (usePair us rs[i].a.toNat rs[i].b.toNat i).getD j 0 * c j) i = sumTo (fun j => us.getD j 0 * c j) i + us.getD i 0 * c rs[i].a.toNat + us.getD i 0 * c rs[i].b.toNat := by
        rw [sumTo_congr (g := fun j => (us.getD j 0 * c j + (if j = rs[i].a.toNat then us.getD i 0 else 0) * c j) + (if j = rs[i].b.toNat then us.getD i 0 else 0) * c j) (fun j _ => by rw [hat, Int.add_mul, Int.add_mul]), sumTo_add, sumTo_add, sum_one _ _ _ _ (by omega), sum_one _ _ _ _ (by omega)]
      have s2 : sumTo (fun j => (usePair us rs[i].a.toNat rs[i].b.toNat i).getD j 0 * dl j) rs.length - sumTo (fun j => (usePair us rs[i].a.toNat rs[i].b.toNat i).getD j 0 * dl j) i = sumTo (fun j => us.getD j 0 * dl j) rs.length - sumTo (fun j => us.getD j 0 * dl j) i :=
        sumTo_diff (by omega) (fun j h1 h2 => by rw [hat, if_neg (by omega), if_neg (by omega)]; simp)
      have s3 : us.getD i 0 * c i = us.getD i 0 * c rs[i].a.toNat + us.getD i 0 * c rs[i].b.toNat + us.getD i 0 * dl i := by rw [hc, Int.mul_add, Int.mul_add]
      omega
    · have hz : rs[i].l.size ≠ 0 := by rw [hlu]; show (1 : Nat) ≠ 0; omega
      rw [if_neg hz]
      obtain ⟨z1, z2⟩ := hl i _ hr hz
      refine use_go hwf c dl hp hl T i us (by omega) hlen ?_
      rw [z1] at e1
      rw [z2] at e2
      simp only [Int.mul_zero] at e1 e2
      omega
/-- what is added at each rule of a pair, over all places where it is met -/
theorem use_sum {rs : List Fac} (hwf : WF rs) (h0 : 0 < rs.length) (c dl : Nat → Int) (hp : ∀ (i : Nat) (r : Fac), rs[i]? = some r → r.l.size = 0 → c i = c r.a.toNat + c r.b.toNat + dl i)
    (hl : ∀ (i : Nat) (r : Fac), rs[i]? = some r → r.l.size ≠ 0 → c i = 0 ∧ dl i = 0) : sumTo (fun j => (usesOf rs).getD j 0 * dl j) rs.length = c (rs.length - 1) := by
  refine use_go hwf c dl hp hl _ rs.length (us0 rs.length) (Nat.le_refl _) (by simp [us0]) ?_
  have e : sumTo (fun j => (us0 rs.length).getD j 0 * c j) rs.length = c (rs.length - 1) := by
    rw [sumTo_congr (g := fun j => (if j = rs.length - 1 then 1 else 0) * c j) (fun j _ => by rw [use0_at _ _ h0]), sum_one _ _ _ _ (by omega)]
    simp
  omega
/-- how often a letter stands right behind one -/
def adj (k l : Nat) : List Nat → Int
  | [] => 0
  | x :: r => (if x = k ∧ r.head? = some l then 1 else 0) + adj k l r
theorem adj_app (k l : Nat) : ∀ (u v : List Nat), u ≠ [] → adj k l (u ++ v) = adj k l u + adj k l v + if u.getLast? = some k ∧ v.head? = some l then 1 else 0
  | [], _, h => absurd rfl h
  | [x], v, _ => by
    simp only [List.singleton_append, adj, List.head?_nil, List.getLast?_singleton, Option.some.injEq]
    simp; omega
  | x :: y :: r, v, _ => by
    have ih := adj_app k l (y :: r) v (by simp)
    have e : (y :: r ++ v).head? = some y := rfl
    show (if x = k ∧ (y :: r ++ v).head? = some l then 1 else 0) + adj k l (y :: r ++ v) = (if x = k ∧ (y :: r).head? = some l then 1 else 0) + adj k l (y :: r) + adj k l v + _
    rw [ih, e, List.head?_cons, List.getLast?_cons_cons]; omega
theorem edf_word {rs : List Fac} (hwf : WF rs) {k : Nat} (hk : k < rs.length) : (edf rs).getD k 0 = ((((wds rs).getD k []).head?.getD 0 : Nat) : Int) :=
  full_hom (d := (0 : Int)) (F := edF) (G := edGf) hwf (fun u => ((u.head?.getD 0 : Nat) : Int)) (fun k _ => rfl) (fun u v r hu _ _ _ => by
    obtain ⟨x, t, rfl⟩ := List.exists_cons_of_ne_nil hu; rfl) k hk
theorem edl_word {rs : List Fac} (hwf : WF rs) {k : Nat} (hk : k < rs.length) : (edl rs).getD k 0 = ((((wds rs).getD k []).getLast?.getD 0 : Nat) : Int) :=
  full_hom (d := (0 : Int)) (F := edF) (G := edGl) hwf (fun u => ((u.getLast?.getD 0 : Nat) : Int)) (fun k _ => rfl) (fun u v r _ hv _ _ => by
    simp only [edGl]
    rw [List.getLast?_append, List.getLast?_eq_some_getLast hv]; rfl) k hk
theorem Q4.plus_at (q : Q4) {l j : Nat} (hl : l < 4) (hj : j < 4) (v : Int) : (q.plus l v).at_ j = q.at_ j + if j = l then v else 0 := by
  match l, hl, j, hj with
  | 0, _, 0, _ => rfl
  | 0, _, 1, _ => simp [Q4.plus, Q4.at_]
  | 0, _, 2, _ => simp [Q4.plus, Q4.at_]
  | 0, _, 3, _ => simp [Q4.plus, Q4.at_]
  | 1, _, 0, _ => simp [Q4.plus, Q4.at_]
  | 1, _, 1, _ => rfl
  | 1, _, 2, _ => simp [Q4.plus, Q4.at_]
  | 1, _, 3, _ => simp [Q4.plus, Q4.at_]
  | 2, _, 0, _ => simp [Q4.plus, Q4.at_]
  | 2, _, 1, _ => simp [Q4.plus, Q4.at_]
  | 2, _, 2, _ => rfl
  | 2, _, 3, _ => simp [Q4.plus, Q4.at_]
  | 3, _, 0, _ => simp [Q4.plus, Q4.at_]
  | 3, _, 1, _ => simp [Q4.plus, Q4.at_]
  | 3, _, 2, _ => simp [Q4.plus, Q4.at_]
  | 3, _, 3, _ => rfl
theorem addT_at {qs : List Q4} (hq : qs.length = 4) {k l k' l' : Nat} (hk : k < 4) (hl : l < 4) (hl' : l' < 4) (v : Int) : ((addT qs k l v).getD k' Q4.nil).at_ l' = (qs.getD k' Q4.nil).at_ l' + if k' = k ∧ l' = l then v else 0 := by
  unfold addT
  rw [qgetD_set _ _ _ _ (by omega)]
  by_cases h : k' = k
  · rw [if_pos h, Q4.plus_at _ hl hl', h]
    simp
  · rw [if_neg h, if_neg (fun q => h q.1)]; omega
/-- what a pair's rule adds -/
def adD (rs : List Fac) (k l j : Nat) : Int := if (rs.getD j default).l.size = 0 then (if ((wds rs).getD (rs.getD j default).a.toNat []).getLast? = some k ∧ ((wds rs).getD (rs.getD j default).b.toNat []).head? = some l then 1 else 0) else 0
theorem pcT_word {rs : List Fac} (hwf : WF rs) {k l : Nat} (_hk : k < 4) (hl : l < 4) : ∀ i, i ≤ rs.length → ((pcT rs i).getD k Q4.nil).at_ l = sumTo (fun j => (usesOf rs).getD j 0 * adD rs k l j) i
  | 0, _ => by
    have e : sumTo (fun j => (usesOf rs).getD j 0 * adD rs k l j) 0 = 0 := rfl
    rw [e]
    unfold pcT
    match k, _hk with
    | 0, _ => match l, hl with | 0, _ => rfl | 1, _ => rfl | 2, _ => rfl | 3, _ => rfl
    | 1, _ => match l, hl with | 0, _ => rfl | 1, _ => rfl | 2, _ => rfl | 3, _ => rfl
    | 2, _ => match l, hl with | 0, _ => rfl | 1, _ => rfl | 2, _ => rfl | 3, _ => rfl
    | 3, _ => match l, hl with | 0, _ => rfl | 1, _ => rfl | 2, _ => rfl | 3, _ => rfl
  | i + 1, hi => by
    have ih := pcT_word hwf _hk hl i (by omega)
    have hr : rs[i]? = some rs[i] := List.getElem?_eq_getElem (by omega)
    have e : sumTo (fun j => (usesOf rs).getD j 0 * adD rs k l j) (i + 1) = sumTo (fun j => (usesOf rs).getD j 0 * adD rs k l j) i + (usesOf rs).getD i 0 * adD rs k l i := rfl
    rw [e, ← ih]
    rcases hwf i _ hr with ⟨h0, a0, a1, b0, b1⟩ | ⟨u, _, hlu, _, _⟩
    · rw [pcT_pair hr h0]
      unfold adD
      rw [fac_getD hr, if_pos h0]
      have la := edl_word hwf (k := rs[i].a.toNat) (by omega)
      have fb := edf_word hwf (k := rs[i].b.toNat) (by omega)
      obtain ⟨x, t, hx⟩ := List.exists_cons_of_ne_nil (wds_pos hwf (k := rs[i].b.toNat) (by omega))
      have hne := wds_pos hwf (k := rs[i].a.toNat) (by omega)
      have hla := List.getLast?_eq_some_getLast hne
      have b1' := wds_let hwf (k := rs[i].a.toNat) (by omega) _ (List.getLast_mem hne)
      have b2' := wds_let hwf (k := rs[i].b.toNat) (by omega) x (by rw [hx]; simp)
      rw [hla] at la ⊢
      rw [hx] at fb ⊢
      simp only [Option.getD_some, List.head?_cons] at la fb ⊢
      rw [la, fb, Int.toNat_natCast, Int.toNat_natCast, addT_at (pcT_len _ _) b1' b2' hl]
      simp only [Option.some.injEq]
      split
      · rename_i h; rw [if_pos ⟨h.1.symm, h.2.symm⟩]; simp
      · rename_i h; rw [if_neg (fun q => h ⟨q.1.symm, q.2.symm⟩)]; simp
    · have hz : rs[i].l.size ≠ 0 := by rw [hlu]; show (1 : Nat) ≠ 0; omega
      rw [pcT_let hr hz]
      unfold adD
      rw [fac_getD hr, if_neg hz]; simp
/-- the pairs of letters are those of the word -/
theorem pc_word {rs : List Fac} (hwf : WF rs) {k l : Nat} (hk : k < 4) (hl : l < 4) : ((pcAll rs).getD k Q4.nil).at_ l = adj k l (wdN rs) := by
  unfold pcAll
  rw [pcT_word hwf hk hl _ (Nat.le_refl _)]
  unfold wdN
  split
  · rename_i h; subst h; rfl
  · rename_i h
    have h0 : 0 < rs.length := List.length_pos_iff.2 h
    refine use_sum hwf h0 (fun j => adj k l ((wds rs).getD j [])) (adD rs k l) (fun i r hr hz => ?_) (fun i r hr hz => ?_)
    · have hi := (List.getElem?_eq_some_iff.1 hr).1
      rcases hwf i r hr with ⟨_, a0, a1, b0, b1⟩ | ⟨u, _, hlu, _, _⟩
      · unfold adD
        rw [fac_getD hr, if_pos hz]
        rw [show (wds rs).getD i [] = (wds rs).getD r.a.toNat [] ++ (wds rs).getD r.b.toNat [] from full_pair [] wdF wdG hwf hr hz, adj_app k l _ _ (wds_pos hwf (by omega))]
      · rw [hlu] at hz; exact absurd hz (show ¬ (1 : Nat) = 0 by omega)
    · unfold adD
      rw [fac_getD hr, if_neg hz]
      refine ⟨?_, rfl⟩
      rw [show (wds rs).getD i [] = [letN r.l] from full_let [] wdF wdG hr hz]
      simp [adj]
end Go.Proofs.Ytecnkmndmnefdaa


/-
  Counts, ranks and selections of letters, inversions and places: what they are for the word.
-/
namespace Go.Proofs.Ytecnkmndmnefdaa

def cn (l : Nat) (u : List Nat) : Int := (u.count l : Int)
theorem cn_app (l : Nat) (u v : List Nat) : cn l (u ++ v) = cn l u + cn l v := by simp [cn, List.count_append]
theorem cn_nil (l : Nat) : cn l [] = 0 := rfl
theorem cn_cons (l x : Nat) (u : List Nat) : cn l (x :: u) = (if x = l then 1 else 0) + cn l u := by
  unfold cn
  rw [List.count_cons]
  by_cases h : x = l
  · simp [h]; omega
  · simp [h]
theorem cn_rev (l : Nat) (u : List Nat) : cn l u.reverse = cn l u := by simp [cn]
theorem cn_nn (l : Nat) (u : List Nat) : 0 ≤ cn l u := by unfold cn; omega
theorem cn_le (l : Nat) (u : List Nat) : cn l u ≤ u.length := by unfold cn; exact Int.ofNat_le.2 List.count_le_length
/-- all counts of a word -/
def cq (u : List Nat) : Q4 := ⟨cn 0 u, cn 1 u, cn 2 u, cn 3 u⟩
theorem cq_at (u : List Nat) {l : Nat} (h : l < 4) : (cq u).at_ l = cn l u := by
  match l, h with
  | 0, _ => rfl
  | 1, _ => rfl
  | 2, _ => rfl
  | 3, _ => rfl
theorem cnts_word {rs : List Fac} (hwf : WF rs) {k : Nat} (hk : k < rs.length) : (cnts rs).getD k Q4.nil = cq ((wds rs).getD k []) := by
  refine full_hom (d := Q4.nil) (F := cntF) (G := cntG) hwf cq (fun l hl => ?_) (fun u v r _ _ _ _ => ?_) k hk
  · match l, hl with
    | 0, _ => rfl
    | 1, _ => rfl
    | 2, _ => rfl
    | 3, _ => rfl
  · simp only [cntG, cq, cn_app]
theorem topQ_word {rs : List Fac} (hwf : WF rs) : topQ rs = cq (wdN rs) := by
  unfold topQ wdN
  by_cases h : rs = []
  · subst h; rfl
  · have h0 : rs.length ≠ 0 := fun e => h (List.eq_nil_of_length_eq_zero e)
    rw [if_neg h0, if_neg h, cnts_word hwf (by omega)]
section
variable {rs : List Fac} {ls : List Int}
theorem wds_kids (hwf : WF rs) {r : Nat} {x : Fac} (hx : rs[r]? = some x) (h : ((wds rs).getD r []).length ≠ 1 ∨ x.l.size = 0) :
    x.l.size = 0 ∧ x.a.toNat < r ∧ x.b.toNat < r ∧ (wds rs).getD r [] = (wds rs).getD x.a.toNat [] ++ (wds rs).getD x.b.toNat [] := by
  rcases hwf r x hx with ⟨h0, a0, a1, b0, b1⟩ | ⟨c, hc, hl, _, _⟩
  · exact ⟨h0, by omega, by omega, full_pair [] wdF wdG hwf hx h0⟩
  · exfalso
    have e2 := full_let (d := []) (F := wdF) (G := wdG) hx (by rw [hl]; show (1 : Nat) ≠ 0; omega)
    rcases h with h | h
    · apply h; unfold wds; rw [e2]; rfl
    · rw [hl] at h; exact absurd h (show ¬ (1 : Nat) = 0 by omega)
theorem rk_word (hls : gLens rs [] = some ls) {l : Nat} (hl : l < 4) : ∀ (f r : Nat) (m : Int), r < f → r < rs.length → rk (rkV rs l) ls rs f r m = cn l (((wds rs).getD r []).take m.toNat)
  | 0, _, _, h, _ => by omega
  | f + 1, r, m, _, hr => by
    have hwf := wf_of hls
    have hlen := lens_word hls hr
    rw [rk]
    by_cases h0 : m ≤ 0
    · rw [if_pos h0, show m.toNat = 0 by omega]; rfl
    rw [if_neg h0]
    by_cases h1 : ls.getD r 0 ≤ m
    · rw [if_pos h1, List.take_of_length_le (by omega)]
      unfold rkV
      rw [cnts_word hwf hr, cq_at _ hl]
    rw [if_neg h1]
    have hx : rs[r]? = some (rs[r]'hr) := List.getElem?_eq_getElem _
    rw [hx]
    obtain ⟨h2, ha, hb, e⟩ := wds_kids hwf hx (.inl (by omega))
    show rk (rkV rs l) ls rs f _ m + rk (rkV rs l) ls rs f _ _ = _
    rw [rk_word hls hl f _ m (by omega) (by omega), rk_word hls hl f _ _ (by omega) (by omega), e, List.take_append, cn_app, lens_word hls (by omega)]
    congr 2
    congr 1
    omega
theorem rkT_word (hls : gLens rs [] = some ls) {l : Nat} (hl : l < 4) (m : Int) : rkT (rkV rs l) ls rs m = cn l ((wdN rs).take m.toNat) := by
  unfold rkT
  by_cases h : rs = []
  · subst h; simp [wdN, cn]
  · have h0 : rs.length ≠ 0 := fun e => h (List.eq_nil_of_length_eq_zero e)
    rw [if_neg h0, rk_word hls hl _ _ _ (by omega) (by omega)]
    unfold wdN; rw [if_neg h]
theorem selGo_word (hls : gLens rs [] = some ls) {l : Nat} (hl : l < 4) : ∀ (f r : Nat) (k n : Int), r < f → r < rs.length → 0 ≤ k → k < cn l ((wds rs).getD r []) →
    ∃ j : Nat, selGo (cnts rs) ls rs l f r k n = n + j ∧ ((wds rs).getD r [])[j]? = some l ∧ cn l (((wds rs).getD r []).take j) = k
  | 0, _, _, _, h, _, _, _ => by omega
  | f + 1, r, k, n, _, hr, k0, k1 => by
    have hwf := wf_of hls
    have hx : rs[r]? = some (rs[r]'hr) := List.getElem?_eq_getElem _
    by_cases h0 : (rs[r]'hr).l.size = 0
    · obtain ⟨h2, ha, hb, e⟩ := wds_kids hwf hx (.inr h0)
      rw [selGo_step (by omega) hx h0, cnts_word hwf (by omega), cq_at _ hl, Nat.add_sub_cancel]
      rw [e, cn_app] at k1
      by_cases hlt : k < cn l ((wds rs).getD (rs[r]'hr).a.toNat [])
      · rw [if_pos hlt]
        obtain ⟨j, e1, e2, e3⟩ := selGo_word hls hl f (rs[r]'hr).a.toNat k n (by omega) (by omega) k0 hlt
        have hj := (List.getElem?_eq_some_iff.1 e2).1
        refine ⟨j, e1, ?_, ?_⟩
        · rw [e, List.getElem?_append_left hj]; exact e2
        · rw [e, List.take_append_of_le_length (by omega)]; exact e3
      · rw [if_neg hlt]
        obtain ⟨j, e1, e2, e3⟩ := selGo_word hls hl f (rs[r]'hr).b.toNat (k - cn l ((wds rs).getD (rs[r]'hr).a.toNat [])) (n + ls.getD (rs[r]'hr).a.toNat 0) (by omega) (by omega) (by omega) (by omega)
        have hlw := lens_word hls (show (rs[r]'hr).a.toNat < rs.length by omega)
        refine ⟨((wds rs).getD (rs[r]'hr).a.toNat []).length + j, by rw [e1, hlw]; omega, ?_, ?_⟩
        · rw [e, List.getElem?_append_right (by omega), Nat.add_sub_cancel_left]; exact e2
        · rw [e, List.take_append, List.take_of_length_le (by omega), cn_app, Nat.add_sub_cancel_left, e3]; omega
    · rw [selGo_stop (by omega) hx h0]
      have e2 := full_let (d := []) (F := wdF) (G := wdG) hx h0
      have e3 : (wds rs).getD r [] = [letN (rs[r]'hr).l] := e2
      rw [e3] at k1 ⊢
      rw [cn_cons, cn_nil] at k1
      by_cases hll : letN (rs[r]'hr).l = l
      · refine ⟨0, by omega, by rw [hll]; rfl, ?_⟩
        rw [if_pos hll] at k1
        show cn l [] = k
        rw [cn_nil]; omega
      · rw [if_neg hll] at k1; omega
theorem sel_word (hls : gLens rs [] = some ls) {l : Nat} (hl : l < 4) {k : Int} (k0 : 0 ≤ k) (k1 : k < cn l (wdN rs)) :
    ∃ j : Nat, selGo (cnts rs) ls rs l rs.length (rs.length - 1) k 0 = j ∧ (wdN rs)[j]? = some l ∧ cn l ((wdN rs).take j) = k := by
  by_cases h : rs = []
  · subst h; rw [show wdN [] = [] from rfl, cn_nil] at k1; omega
  · have h0 : 0 < rs.length := List.length_pos_iff.2 h
    have e : wdN rs = (wds rs).getD (rs.length - 1) [] := by unfold wdN; rw [if_neg h]
    rw [e] at k1 ⊢
    obtain ⟨j, e1, e2, e3⟩ := selGo_word hls hl rs.length (rs.length - 1) k 0 (by omega) (by omega) k0 k1
    exact ⟨j, by omega, e2, e3⟩
end
theorem use_goG {rs : List Fac} (hwf : WF rs) (c dl : Nat → Int) (hp : ∀ (i : Nat) (r : Fac), rs[i]? = some r → r.l.size = 0 → c i = c r.a.toNat + c r.b.toNat + dl i)
    (hl : ∀ (i : Nat) (r : Fac), rs[i]? = some r → r.l.size ≠ 0 → c i = dl i) (T : Int) :
    ∀ (m : Nat) (us : List Int), m ≤ rs.length → us.length = rs.length → sumTo (fun j => us.getD j 0 * c j) m + (sumTo (fun j => us.getD j 0 * dl j) rs.length - sumTo (fun j => us.getD j 0 * dl j) m) = T →
      sumTo (fun j => (useGo rs m us).getD j 0 * dl j) rs.length = T
  | 0, us, _, _, h => by
    have e1 : sumTo (fun j => us.getD j 0 * c j) 0 = 0 := rfl
    have e2 : sumTo (fun j => us.getD j 0 * dl j) 0 = 0 := rfl
    show sumTo (fun j => us.getD j 0 * dl j) rs.length = T
    omega
  | i + 1, us, hm, hlen, h => by
    have hr : rs[i]? = some rs[i] := List.getElem?_eq_getElem (by omega)
    have e1 : sumTo (fun j => us.getD j 0 * c j) (i + 1) = sumTo (fun j => us.getD j 0 * c j) i + us.getD i 0 * c i := rfl
    have e2 : sumTo (fun j => us.getD j 0 * dl j) (i + 1) = sumTo (fun j => us.getD j 0 * dl j) i + us.getD i 0 * dl i := rfl
    show sumTo (fun j => (useGo rs i (usStep rs us i)).getD j 0 * dl j) rs.length = T
    unfold usStep
    rw [fac_getD hr]
    rcases hwf i _ hr with ⟨h0, a0, a1, b0, b1⟩ | ⟨u, _, hlu, _, _⟩
    · rw [if_pos h0]
      have hc := hp i _ hr h0
      refine use_goG hwf c dl hp hl T i _ (by omega) (by rw [usePair_len]; exact hlen) ?_
      have hat := usePair_at (us := us) (a := rs[i].a.toNat) (b := rs[i].b.toNat) (i := i) (by omega) (by omega)
      have s1 : sumTo (fun j => (usePair us rs[i].a.toNat rs[i].b.toNat i).getD j 0 * c j) i = sumTo (fun j => us.getD j 0 * c j) i + us.getD i 0 * c rs[i].a.toNat + us.getD i 0 * c rs[i].b.toNat := by
        rw [sumTo_congr (g := fun j => (us.getD j 0 * c j + (if j = rs[i].a.toNat then us.getD i 0 else 0) * c j) + (if j = rs[i].b.toNat then us.getD i 0 else 0) * c j) (fun j _ => by rw [hat, Int.add_mul, Int.add_mul]), sumTo_add, sumTo_add, sum_one _ _ _ _ (by omega), sum_one _ _ _ _ (by omega)]
      have s2 : sumTo (fun j => (usePair us rs[i].a.toNat rs[i].b.toNat i).getD j 0 * dl j) rs.length - sumTo (fun j => (usePair us rs[i].a.toNat rs[i].b.toNat i).getD j 0 * dl j) i = sumTo (fun j => us.getD j 0 * dl j) rs.length - sumTo (fun j => us.getD j 0 * dl j) i :=
        sumTo_diff (by omega) (fun j h1 h2 => by rw [hat, if_neg (by omega), if_neg (by omega)]; simp)
      have s3 : us.getD i 0 * c i = us.getD i 0 * c rs[i].a.toNat + us.getD i 0 * c rs[i].b.toNat + us.getD i 0 * dl i := by rw [hc, Int.mul_add, Int.mul_add]
      omega
    · have hz : rs[i].l.size ≠ 0 := by rw [hlu]; show (1 : Nat) ≠ 0; omega
      rw [if_neg hz]
      have z1 := hl i _ hr hz
      refine use_goG hwf c dl hp hl T i us (by omega) hlen ?_
      rw [z1] at e1
      omega
theorem use_sumG {rs : List Fac} (hwf : WF rs) (h0 : 0 < rs.length) (c dl : Nat → Int) (hp : ∀ (i : Nat) (r : Fac), rs[i]? = some r → r.l.size = 0 → c i = c r.a.toNat + c r.b.toNat + dl i)
    (hl : ∀ (i : Nat) (r : Fac), rs[i]? = some r → r.l.size ≠ 0 → c i = dl i) : sumTo (fun j => (usesOf rs).getD j 0 * dl j) rs.length = c (rs.length - 1) := by
  refine use_goG hwf c dl hp hl _ rs.length (us0 rs.length) (Nat.le_refl _) (by simp [us0]) ?_
  have e : sumTo (fun j => (us0 rs.length).getD j 0 * c j) rs.length = c (rs.length - 1) := by
    rw [sumTo_congr (g := fun j => (if j = rs.length - 1 then 1 else 0) * c j) (fun j _ => by rw [use0_at _ _ h0]), sum_one _ _ _ _ (by omega)]
    simp
  omega
/-- whether a rule is some letter -/
def lcD (rs : List Fac) (l j : Nat) : Int := if (rs.getD j default).l.size = 0 then 0 else if letN (rs.getD j default).l = l then 1 else 0
/-- the counts over the first rules -/
def lcL (rs : List Fac) (i : Nat) : List Int := (List.range 4).map fun l => sumTo (fun j => (usesOf rs).getD j 0 * lcD rs l j) i
theorem lcL_all {rs : List Fac} (hwf : WF rs) : lcL rs rs.length = (List.range 4).map fun l => cn l (wdN rs) := by
  unfold lcL
  refine List.map_congr_left fun l _ => ?_
  unfold wdN
  by_cases h : rs = []
  · subst h; rfl
  · have h0 : 0 < rs.length := List.length_pos_iff.2 h
    rw [if_neg h]
    refine use_sumG hwf h0 (fun j => cn l ((wds rs).getD j [])) (lcD rs l) (fun i r hr hz => ?_) (fun i r hr hz => ?_)
    · unfold lcD
      rw [fac_getD hr, if_pos hz, show (wds rs).getD i [] = (wds rs).getD r.a.toNat [] ++ (wds rs).getD r.b.toNat [] from full_pair [] wdF wdG hwf hr hz, cn_app]; omega
    · unfold lcD
      rw [fac_getD hr, if_neg hz, show (wds rs).getD i [] = [letN r.l] from full_let (d := []) (F := wdF) (G := wdG) hr hz, cn_cons, cn_nil]; omega
end Go.Proofs.Ytecnkmndmnefdaa


/-
  A grammar trimmed: the plain part.
-/
namespace Go.Proofs.Ytecnkmndmnefdaa

/-- a rule with the numbers that stand for its parts -/
def trR (same : List Int) (r : Fac) : Fac := if r.l.size = 0 then ⟨⟨#[]⟩, same.getD r.a.toNat 0, same.getD r.b.toNat 0⟩ else r
/-- the rules, told by the first equal ones; the first equal one of each rule -/
def trK : List Fac → List Fac → List Int → List Fac × List Int
  | [], kept, same => (kept, same)
  | r :: rs, kept, same => trK rs (kept ++ [trR same r]) (same ++ [((kept.idxOf (trR same r) : Nat) : Int)])
/-- which rules the last one is made of -/
def useStep (kept : List Fac) (i : Nat) (u : List Bool) : List Bool := if u.getD i false = true ∧ (kept.getD i default).l.size = 0 then (u.set (kept.getD i default).a.toNat true).set (kept.getD i default).b.toNat true else u
def useT (kept : List Fac) : Nat → List Bool → List Bool
  | 0, u => u
  | i + 1, u => useT kept i (useStep kept i u)
def use0 (n : Nat) (same : List Int) : List Bool := (List.replicate n false).set (same.getD (n - 1) 0).toNat true
/-- the rules that are left -/
def outT (used : List Bool) : Nat → List Fac → List Fac → List Int → List Fac
  | _, [], out, _ => out
  | i, r :: ks, out, at_ => if used.getD i false = true then outT used (i + 1) ks (out ++ [trR at_ r]) (at_.set i (out.length : Int)) else outT used (i + 1) ks out at_
def trimL (rs : List Fac) : List Fac :=
  if rs.length = 0 then [] else outT (useT (trK rs [] []).1 rs.length (use0 rs.length (trK rs [] []).2)) 0 (trK rs [] []).1 [] (List.replicate rs.length 0)

/-- what holds of the rules that are told by the first equal ones -/
structure TrI (kept : List Fac) (same : List Int) : Prop where
  len : same.length = kept.length
  s : ∀ j, j < kept.length → 0 ≤ same.getD j 0 ∧ same.getD j 0 ≤ (j : Int)
  k : ∀ (j : Nat) (r : Fac), kept[j]? = some r → (r.l.size = 0 ∧ 0 ≤ r.a ∧ r.a < (j : Int) ∧ 0 ≤ r.b ∧ r.b < (j : Int)) ∨ (∃ c, letB c = true ∧ r.l = ⟨#[c]⟩ ∧ r.a = 0 ∧ r.b = 0)
theorem TrI.nil : TrI [] [] := ⟨rfl, fun j h => absurd h (by simp), fun j r h => by simp at h⟩
theorem TrI.step {rs kept : List Fac} {same : List Int} (h : TrI kept same) (hwf : WF rs) {r : Fac} (hr : rs[kept.length]? = some r) : TrI (kept ++ [trR same r]) (same ++ [((kept.idxOf (trR same r) : Nat) : Int)]) := by
  have hl := h.len
  refine ⟨by simp [hl], fun j hj => ?_, fun j x hx => ?_⟩
  · simp only [List.length_append, List.length_singleton] at hj
    by_cases e : j < kept.length
    · rw [List.getD_eq_getElem?_getD, List.getElem?_append_left (by omega), ← List.getD_eq_getElem?_getD]; exact h.s j e
    · obtain rfl : j = kept.length := by omega
      rw [List.getD_eq_getElem?_getD, List.getElem?_append_right (by omega), hl, Nat.sub_self]
      simp only [List.getElem?_cons_zero, Option.getD_some]
      have := List.idxOf_le_length (a := trR same r) (l := kept)
      omega
  · by_cases e : j < kept.length
    · rw [List.getElem?_append_left e] at hx; exact h.k j x hx
    · have hj2 := (List.getElem?_eq_some_iff.1 hx).1
      simp only [List.length_append, List.length_singleton] at hj2
      obtain rfl : j = kept.length := by omega
      rw [List.getElem?_append_right (Nat.le_refl _), Nat.sub_self] at hx
      obtain rfl : trR same r = x := by simpa using hx
      rcases hwf _ r hr with ⟨h0, a0, a1, b0, b1⟩ | ⟨c, hc, hxl, ha, hb⟩
      · left
        unfold trR
        rw [if_pos h0]
        have s1 := h.s r.a.toNat (by omega)
        have s2 := h.s r.b.toNat (by omega)
        exact ⟨rfl, s1.1, by simp only; omega, s2.1, by simp only; omega⟩
      · right
        have h0 : r.l.size ≠ 0 := by rw [hxl]; show (1 : Nat) ≠ 0; omega
        unfold trR
        rw [if_neg h0]
        exact ⟨c, hc, hxl, ha, hb⟩
/-- the rules told, step by step -/
theorem trK_take (rs : List Fac) {k : Nat} {kept : List Fac} {same : List Int} {r : Fac} (hr : rs[k]? = some r) (H : trK (rs.drop k) kept same = trK rs [] []) : trK (rs.drop (k + 1)) (kept ++ [trR same r]) (same ++ [((kept.idxOf (trR same r) : Nat) : Int)]) = trK rs [] [] := by
  rw [← H, drop_cons hr]; rfl
theorem trK_all {rs : List Fac} {kept : List Fac} {same : List Int} {k : Nat} (hk : rs.length ≤ k) (H : trK (rs.drop k) kept same = trK rs [] []) : (kept, same) = trK rs [] [] := by
  rw [← H, List.drop_of_length_le hk]; rfl
theorem trK_I {rs : List Fac} (hwf : WF rs) : ∀ (k : Nat) (kept : List Fac) (same : List Int), TrI kept same → kept.length = k → k ≤ rs.length → TrI (trK (rs.drop k) kept same).1 (trK (rs.drop k) kept same).2 ∧ (trK (rs.drop k) kept same).1.length = rs.length := by
  intro k
  induction hd : rs.length - k generalizing k with
  | zero =>
    intro kept same h hk hle
    rw [List.drop_of_length_le (by omega)]
    exact ⟨h, by show kept.length = _; omega⟩
  | succ d ih =>
    intro kept same h hk hle
    have hr : rs[k]? = some (rs[k]'(by omega)) := List.getElem?_eq_getElem _
    rw [drop_cons hr]
    exact ih (k + 1) (by omega) _ _ (h.step hwf (by rw [hk]; exact hr)) (by simp [hk]) (by omega)
theorem idxOf_le {α : Type} [DecidableEq α] {x : α} : ∀ {l : List α} {j : Nat}, l[j]? = some x → l.idxOf x ≤ j
  | [], j, h => by simp at h
  | y :: l, 0, h => by
    obtain rfl : y = x := by simpa using h
    simp
  | y :: l, j + 1, h => by
    rw [List.idxOf_cons]
    by_cases e : y = x
    · subst e; simp
    · have := idxOf_le (l := l) (j := j) (x := x) (by simpa using h)
      rw [show (y == x) = false by simpa using e]
      show (bif false then 0 else l.idxOf x + 1) ≤ j + 1
      simp only [cond_false]
      omega
/-- the least number of an equal rule, looked for among those that are first ones -/
theorem first_eq {kept : List Fac} {same : List Int} (hs : ∀ (j : Nat) (x : Fac), kept[j]? = some x → same.getD j 0 = ((kept.idxOf x : Nat) : Int)) {j : Nat} {x : Fac} (hj : kept[j]? = some x) (h0 : ∀ i, i < j → kept[i]? ≠ some x) : same.getD j 0 = (j : Int) := by
  rw [hs j x hj]
  have hlt := (List.getElem?_eq_some_iff.1 hj).1
  have hm : x ∈ kept := List.mem_of_getElem? hj
  have h1 : kept.idxOf x < kept.length := List.idxOf_lt_length_iff.2 hm
  have h2 : kept[kept.idxOf x]? = some x := by rw [List.getElem?_eq_getElem h1, List.getElem_idxOf]
  rcases Nat.lt_trichotomy (kept.idxOf x) j with h | h | h
  · exact absurd h2 (h0 _ h)
  · rw [h]
  · exfalso
    have := idxOf_le hj
    omega
theorem idx_app1 {f y : Fac} {kept : List Fac} (h : f ∈ kept) : (kept ++ [y]).idxOf f = kept.idxOf f := by rw [List.idxOf_append, if_pos h]
theorem idx_app2 (y : Fac) (kept : List Fac) : (kept ++ [y]).idxOf y = kept.idxOf y := by
  rw [List.idxOf_append]
  by_cases h : y ∈ kept
  · rw [if_pos h]
  · rw [if_neg h, List.idxOf_eq_length h]; simp
/-- the map behind a rule that was known -/
theorem map_known {g : Fac → Option Value} {y : Fac} {kept : List Fac} (h : ∀ f, g f = if f ∈ kept then some (.int .i64 ((kept.idxOf f : Nat) : Int)) else none) (hy : y ∈ kept) (f : Fac) : g f = if f ∈ kept ++ [y] then some (.int .i64 (((kept ++ [y]).idxOf f : Nat) : Int)) else none := by
  rw [h f]
  by_cases hf : f ∈ kept
  · rw [if_pos hf, if_pos (List.mem_append_left _ hf), idx_app1 hf]
  · rw [if_neg hf, if_neg (by
      intro e
      rcases List.mem_append.1 e with e | e
      · exact hf e
      · rw [List.mem_singleton.1 e] at hf; exact hf hy)]
/-- and behind one that was not -/
theorem map_new {g : Fac → Option Value} {y : Fac} {kept : List Fac} (h : ∀ f, g f = if f ∈ kept then some (.int .i64 ((kept.idxOf f : Nat) : Int)) else none) (hy : y ∉ kept) (f : Fac) : (if f = y then some (.int .i64 (kept.length : Int)) else g f) = if f ∈ kept ++ [y] then some (.int .i64 (((kept ++ [y]).idxOf f : Nat) : Int)) else none := by
  by_cases hf : f = y
  · subst hf
    rw [if_pos rfl, if_pos (by simp), idx_app2, List.idxOf_eq_length hy]
  · rw [if_neg hf, h f]
    by_cases hk : f ∈ kept
    · rw [if_pos hk, if_pos (List.mem_append_left _ hk), idx_app1 hk]
    · rw [if_neg hk, if_neg (by
        intro e
        rcases List.mem_append.1 e with e | e
        · exact hk e
        · exact hf (List.mem_singleton.1 e))]
end Go.Proofs.Ytecnkmndmnefdaa


/-
  The walk made to stand ahead of an operation, so that a law can be laid there.
-/
namespace Go.Proofs.Ytecnkmndmnefdaa
open Go.RowKit

/-! ### the walk made to stand ahead of an operation -/
def Stop (p : Prop) : Prop := p
theorem stopW {P : Program} {ops : Array Oper} {Q : Exit → Act → World → Prop} {a : Act} {W : World} {l : List Oper} (h : Stop (wpList P ops Q l a W)) : wpList P ops Q l a W := h
theorem stop_named {P : Program} {ops : Array Oper} {Q : Exit → Act → World → Prop} {a : Act} {W : World} {l : List Oper} (h : ∀ w, Hid (w = W) → Stop (wpList P ops Q l a w)) : Stop (wpList P ops Q l a W) := h W (Lib.hid rfl)
end Go.Proofs.Ytecnkmndmnefdaa


/-
  Lists of rules that a call makes: what is appended, copied.
-/
namespace Go.Proofs.Ytecnkmndmnefdaa
open Go.RowKit

theorem elem_rule : Elem Try.prog 24 69 3 32 := Elem.mk' (z := .agg #[.string .empty, .int .i64 0, .int .i64 0]) Try.underlying24 (by kernel_rfl) rfl
theorem one_fac (f : Fac) : ∀ u ∈ Fac.cells f, u.oneCell' = true := by simp [Fac.cells, Value.oneCell']
/-- what lies behind a list, cell for cell -/
theorem Rd.news {α : Type} {w : World} {B n sz : Nat} {A : Option Addr} {enc : α → List Value} {xs : List α} (h : Rd w B A n sz enc xs) (hl : ∀ x ∈ xs, (enc x).length = sz) (hn : 0 < n) :
    ∃ b o, A = some ⟨b, o, none⟩ ∧ b < B ∧ ∀ j u, (xs.flatMap enc)[j]? = some u → w.cell? ((⟨b, o, none⟩ : Addr).add j) = some u := by
  obtain ⟨b, o, hA, hb, hc⟩ := h.2 hn
  refine ⟨b, o, hA, hb, fun j u hj => ?_⟩
  have hlt := (List.getElem?_eq_some_iff.1 hj).1
  rw [flat_len xs hl] at hlt
  have hsz : 0 < sz := by
    rcases Nat.eq_zero_or_pos sz with h | h
    · subst h; simp at hlt
    · exact h
  have hk : j / sz < xs.length := Nat.div_lt_of_lt_mul (by rw [Nat.mul_comm]; exact hlt)
  have he : j / sz * sz + j % sz = j := by rw [Nat.mul_comm]; exact Nat.div_add_mod j sz
  have hx : xs[j / sz]? = some (xs[j / sz]'hk) := List.getElem?_eq_getElem _
  have h2 := flat_at xs hl _ _ hx (j % sz) (Nat.mod_lt _ hsz)
  rw [he, hj] at h2
  have h3 := hc _ _ hx (j % sz) u h2.symm
  rw [Nat.add_assoc, he] at h3
  simpa [Addr.add_lit] using h3
/-- a row of the call's own, behind a store into a block of another type -/
theorem own_kept' {w : World} {base g : Nat} {e t : TypeId} {sz n : Nat} {v : Value} {xs : List Value} {cs : Array Value} (h : w.ownsRow base e sz v n xs) (hB : Blk w g t cs) (ht : e ≠ t) (u : Value) {i : Nat} : (w.setCell ⟨g, i, none⟩ u).ownsRow base e sz v n xs := by
  refine h.kept (gb_set w g i u) ?_
  cases hv : v.ownBlock with
  | none => exact .inl rfl
  | some k => exact .inr fun e => own_blk_ne h hB ht (by rw [hv]; exact e.symm)
section
variable {α : Type} {P : Program} {w : World} {ops : Array Oper} {o : Oper} {a : Act} {rest : List Oper}
/-- a list appended to a slice of the call's own -/
theorem wpList_app {Q : Exit → Act → World → Prop} (hgd : o.guard = none) (s x : Operand) (t : TypeId) (ho : o.op = .call { callee := .builtin .append, args := #[s, x], argTypes := #[t, t] })
    (base : Nat) (e : TypeId) (sz bytes : Nat) (EI : Elem P t e sz bytes) (enc : α → List Value) (A : Option Addr) (n c : Nat) (xs : List α) (hs : a.eval s = .slice A n c)
    (hown : w.ownsRow base e sz (.slice A n c) n (xs.flatMap enc)) (ad : Addr) (m cc : Nat) (ys : List α) (hx : a.eval x = .slice (some ad) m cc) (hym : ys.length = m) (hm0 : 0 < m) (hnews : ∀ j u, (ys.flatMap enc)[j]? = some u → w.cell? (ad.add j) = some u)
    (hlen : ∀ y ∈ ys, (enc y).length = sz) (hone : ∀ y ∈ ys, ∀ u ∈ enc y, u.oneCell' = true) (hsz : 0 < sz) (hbytes : (n + m) * bytes ≤ 140737488355328) (hm : n + m ≤ maxLen) (hsize : base ≤ w.heap.size)
    (h : ∀ A' c' w', w'.ownsRow base e sz (.slice A' (n + m) c') (n + m) ((xs ++ ys).flatMap enc) → w.grownBy w' (Value.slice A n c).ownBlock →
      ((Value.slice A' (n + m) c').ownBlock = (Value.slice A n c).ownBlock ∨ (Value.slice A' (n + m) c').ownBlock = some w.heap.size) → wpList P ops Q rest (a.put o.dst (.slice A' (n + m) c')) w') : wpList P ops Q (o :: rest) a w := by
  obtain ⟨ht, i, z, hi, hz, h1, h2, hzs⟩ := EI
  refine wpList_plain hgd fun _ hK => ?_
  obtain ⟨v', w', hr, r2, r3, _, r5⟩ := run_append_own_at (P := P) w base t o.type e i z sz bytes ht hi hz h1 h2 hzs hsz _ n _ hown ad m cc (ys.flatMap enc) (by rw [flat_len ys hlen, hym]) hnews
    (fun u hu => by obtain ⟨y, hy, hu⟩ := List.mem_flatMap.1 hu; exact hone y hy u hu) hm hbytes hsize
  obtain ⟨g', cap, rfl, _, _⟩ := r2.form (by omega)
  unfold Oper.wp execOp
  simp only [ho, resolve, invoke, builtin, Sem.run_bind, Sem.run_pure, Result.andThen_ok, List.map_toArray, List.map_cons, List.map_nil, hs, hx, hr]
  exact hK _ _ (h _ _ w' (by rw [List.flatMap_append]; exact r2) r3 r5)
/-- the same, as a step of a region that draws its order -/
theorem step_app {K : Act → World → Prop} {Q : Exit → Act → World → Prop} {E : Prop} (hgd : o.guard = none) (s x : Operand) (t : TypeId) (ho : o.op = .call { callee := .builtin .append, args := #[s, x], argTypes := #[t, t] })
    (base : Nat) (e : TypeId) (sz bytes : Nat) (EI : Elem P t e sz bytes) (enc : α → List Value) (A : Option Addr) (n c : Nat) (xs : List α) (hs : a.eval s = .slice A n c)
    (hown : w.ownsRow base e sz (.slice A n c) n (xs.flatMap enc)) (ad : Addr) (m cc : Nat) (ys : List α) (hx : a.eval x = .slice (some ad) m cc) (hym : ys.length = m) (hm0 : 0 < m) (hnews : ∀ j u, (ys.flatMap enc)[j]? = some u → w.cell? (ad.add j) = some u)
    (hlen : ∀ y ∈ ys, (enc y).length = sz) (hone : ∀ y ∈ ys, ∀ u ∈ enc y, u.oneCell' = true) (hsz : 0 < sz) (hbytes : (n + m) * bytes ≤ 140737488355328) (hm : n + m ≤ maxLen) (hsize : base ≤ w.heap.size)
    (h : ∀ A' c' w', w'.ownsRow base e sz (.slice A' (n + m) c') (n + m) ((xs ++ ys).flatMap enc) → w.grownBy w' (Value.slice A n c).ownBlock → K (a.put o.dst (.slice A' (n + m) c')) w') :
    if Region.wanted o (yielded ops a.tmps) = true then Oper.wp P o a w K Q else E := by
  obtain ⟨ht, i, z, hi, hz, h1, h2, hzs⟩ := EI
  obtain ⟨v', w', hr, r2, r3, _, r5⟩ := run_append_own_at (P := P) w base t o.type e i z sz bytes ht hi hz h1 h2 hzs hsz _ n _ hown ad m cc (ys.flatMap enc) (by rw [flat_len ys hlen, hym]) hnews
    (fun u hu => by obtain ⟨y, hy, hu⟩ := List.mem_flatMap.1 hu; exact hone y hy u hu) hm hbytes hsize
  obtain ⟨g', cap, rfl, _, _⟩ := r2.form (by omega)
  have hw : Region.wanted o (yielded ops a.tmps) = true := by simp [Region.wanted, hgd]
  rw [if_pos hw]
  unfold Oper.wp execOp
  simp only [ho, resolve, invoke, builtin, Sem.run_bind, Sem.run_pure, Result.andThen_ok, List.map_toArray, List.map_cons, List.map_nil, hs, hx, hr]
  exact h _ _ w' (by rw [List.flatMap_append]; exact r2) r3
end
set_option maxHeartbeats 2000000 in
set_option maxRecDepth 100000 in
theorem l02Own_any (gb : Nat) (A : Option Addr) (n c : Nat) (rs : List Fac) (w : World) (hg : gb < w.heap.size) (hc : w.cell? ⟨gb, 0, none⟩ = some (.slice A n c)) (hn : n ≤ 1048576) (hn0 : 0 < n) (hr : Rd w w.heap.size A n 3 Fac.cells rs) :
    Calls Try.prog 55 #[.pointer (some ⟨gb, 0, none⟩)] w (RetG w rs) := by
  have hl := Lib.hid hr.len
  obtain ⟨b, o, rfl, hb, hnews⟩ := hr.news (fun x _ => fac_len x) hn0
  have HN := Lib.hid hnews; clear hnews hr
  have hh := Lib.hid (fun (W : World) (h : Below w.heap.size w W) j u (hj : (rs.flatMap Fac.cells)[j]? = some u) => ((h.cell (p := (⟨b, o, none⟩ : Addr).add j) (by simpa [Addr.add_lit] using hb)).trans (HN.out j u hj)))
  have h2 : Below w.heap.size w ((w.alloc (.cells #[.slice none 0 0] 26)).alloc (.cells #[] 69)) := by (repeat first | exact Below.refl _ _ | assumption | refine Below.drew ?_ | refine Below.alloc ?_ (by first | exact Nat.le_refl _ | (simp; done) | omega | (simp; omega)) _ | refine Below.setCell ?_ (by first | exact Nat.le_refl _ | (simp; done) | omega | (simp; omega)) _)
  have ow : ((w.alloc (.cells #[.slice none 0 0] 26)).alloc (.cells #[] 69)).ownsRow w.heap.size 69 3 (.slice (some ⟨w.heap.size + 1, 0, none⟩) 0 0) 0 (([] : List Fac).flatMap Fac.cells) := by
    simpa using World.ownsRow_made (base := w.heap.size) (e := 69) (size := 3) (w.alloc (.cells #[.slice none 0 0] 26)) #[] 0 (by simp) (by unfold maxLen; omega) rfl
  have bx := (Blk.new w 26 #[.slice none 0 0]).alloc (.cells #[] 69)
  have H2 := Lib.hid h2; have OW := Lib.hid ow; have BX := Lib.hid bx
  clear h2 ow bx
  go_enter Try.func55, Try.ntmps55
  go_wp2_with
    (at_builtin
     refine wpList_app rfl _ _ _ rfl w.heap.size 69 3 32 elem_rule Fac.cells (some ⟨w.heap.size + 1, 0, none⟩) 0 0 [] rfl OW.out ⟨b, o, none⟩ n c rs rfl hl.out hn0 (fun j u hj => hh.out _ H2.out j u hj) (fun x _ => fac_len x) (fun x _ => one_fac x) (by omega) (by omega) (by unfold maxLen; omega) (by simp; omega) ?_
     rw [Nat.zero_add, List.nil_append]
     intro A9 c9 w9 own9 hg9 hat9
     have O9 := Lib.hid own9
     have B9 := Lib.hid (H2.out.grown hg9 (by simp; omega) (fun k hk => (OW.out.lt k hk).1))
     have X9 := BX.out.grown hg9 (by simp [Value.ownBlock])
     have X9' := Lib.hid X9
     have f9 := X9.frozen
     have d9 := X9.cell 0
     have l9 := X9.lt
     clear own9 X9)
  have X10 := X9'.out.set_ 0 (.slice A9 n c9)
  have x10 : (w9.setCell ⟨w.heap.size, 0, none⟩ (.slice A9 n c9)).cell? ⟨w.heap.size, 0, none⟩ = some (.slice A9 n c9) := by rw [X10.cell 0]; rfl
  refine bodyPost_ret (v := .agg #[.slice A9 n c9]) (by simp [results, Try.results55, go_sem, x10]) rfl ⟨A9, c9, by rw [hl.out], ?_, B9.out.setCell (Nat.le_refl _) _⟩
  rw [hl.out]
  exact own_kept' O9.out X9'.out (by decide) _
end Go.Proofs.Ytecnkmndmnefdaa


/-
  A map whose keys are rules.
-/
namespace Go.Proofs.Ytecnkmndmnefdaa
open Go.RowKit Go.MapKept

section
variable {α : Type} [DecidableEq α] {P : Program} {w : World} {ops : Array Oper} {rest : List Oper} {o : Oper} {a : Act} {b : Nat} {K : α → Value} {mm : List (α × Value)} {kt t e : TypeId} {z : Value}
/-- a look-up in a map of the call's own, with the word whether there is an entry -/
theorem wpList_lookOk {Q : Exit → Act → World → Prop} (hgd : o.guard = none) (m x : Operand) (ho : o.op = .lookup t m x true) (KO : KeyOk P kt K) (ht : P.underlying t = some (.map kt e)) (hz : (zeroValue e).run P w = .ok z w) (hm : a.eval m = .map (some b)) (y : α) (hx : a.eval x = K y)
    (h : MapIs w b K mm) (hK : wpList P ops Q rest (a.put o.dst (.tuple #[(mget y mm).getD z, .bool (mget y mm).isSome])) w) : wpList P ops Q (o :: rest) a w := by
  refine wpList_plain hgd fun _ hK' => ?_
  unfold Oper.wp execOp
  simp only [ho, hm, hx, Sem.run_bind, h.lookOk KO ht hz y, Result.andThen_ok, Sem.run_pure]
  exact hK' _ _ hK
end
theorem zero_i64 (w : World) : (zeroValue 2).run Try.prog w = .ok (.int .i64 0) w := by kernel_rfl
theorem eql_rule (f g : Fac) (W : World) : (binOp .eql 69 (.agg #[.string f.l, .int .i64 f.a, .int .i64 f.b]) (.agg #[.string g.l, .int .i64 g.a, .int .i64 g.b])).run Try.prog W = .ok (.bool (decide (f = g))) W := by
  rw [eq_fac]
  simp [go_sem, tl_inj]
  try (by_cases h1 : f.l = g.l <;> by_cases h2 : f.a = g.a <;> by_cases h3 : f.b = g.b <;> simp [h1, h2, h3])
theorem equal_rule (f g : Fac) (W : World) : (Op.equal 69 f.val g.val).run Try.prog W = .ok (decide (f = g)) W := by
  have h := eql_rule f g W
  unfold binOp at h
  simp only [Sem.run_bind] at h
  unfold Fac.val
  generalize hr : Sem.run Try.prog (Op.equal 69 (.agg #[.string f.l, .int .i64 f.a, .int .i64 f.b]) (.agg #[.string g.l, .int .i64 g.a, .int .i64 g.b])) W = r at h ⊢
  cases r with
  | ok b w' =>
    simp [Result.andThen] at h
    rw [h.1, h.2]
  | _ => simp [Result.andThen] at h
theorem rule_key : KeyOk Try.prog 69 Fac.val := by
  refine ⟨fun e a w => ?_, fun a m es w he => ?_, fun a w => ?_⟩
  · have hs : ∀ n v, (Instr.checkKey e (n + 1) 9 (.string v)).run Try.prog w = .ok () w := fun n v => run_checkKey Try.underlying9 (by simp [IsKey]) e n
    have hi : ∀ n v, (Instr.checkKey e (n + 1) 2 (.int .i64 v)).run Try.prog w = .ok () w := fun n v => run_checkKey Try.underlying2 (by simp [IsKey]) e n
    unfold Fac.val
    show (Instr.checkKey e (9999 + 1) 69 _).run _ _ = _
    unfold Instr.checkKey
    simp only [Sem.run_bind, run_underlying Try.underlying69]
    have hs' := hs 9998
    have hi' := hi 9998
    simp [go_sem, hs', hi']
  · have ask : ∀ (m : List (Fac × Value)) (es : List MapEntry) (i : Nat), es.map (fun e => (e.key, e.val)) = m.map (fun p => (Fac.val p.1, p.2)) → (Instr.findAsking 69 (Fac.val a) es i).run Try.prog w = .ok (midx a m i) w := by
      intro m
      induction m with
      | nil => intro es i he; cases es with | nil => rfl | cons _ _ => simp at he
      | cons p r ih =>
        intro es i he
        cases es with
        | nil => simp at he
        | cons e es =>
          simp at he
          obtain ⟨⟨h1, h2⟩, h3⟩ := he
          unfold Instr.findAsking
          rw [h1, midx_cons]
          simp only [Sem.run_bind, equal_rule, Result.andThen_ok]
          by_cases hap : a = p.1
          · simp [hap, h2]
          · simp only [hap, decide_false, if_false, Bool.false_eq_true]
            exact ih es (i + 1) h3
    cases es with
    | nil =>
      cases m with
      | nil => simp [Instr.findKey, run_underlying Try.underlying69, Instr.findNow, midx]
      | cons _ _ => simp at he
    | cons e es =>
      have hn : Instr.findNow (TypeDesc.struct #[]) (Fac.val a) (e :: es) 0 = none := by unfold Instr.findNow Instr.sameNow; rfl
      have := ask m (e :: es) 0 he
      simp [Instr.findKey, run_underlying Try.underlying69, Instr.findNow, Instr.sameNow, Fac.val] at this ⊢
      exact this
  · have : Instr.sameBits 10000 a.val a.val = true := by
      show Instr.sameBits (9999 + 1) (.agg _) (.agg _) = true
      unfold Instr.sameBits
      simp [Instr.sameBits, beq_toListBytes, tl_beq]
    simp [Instr.keyThatStays, this]
end Go.Proofs.Ytecnkmndmnefdaa
