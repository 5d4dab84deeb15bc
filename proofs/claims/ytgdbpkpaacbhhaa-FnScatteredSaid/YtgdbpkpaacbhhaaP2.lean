/-
  Texts of this claim, merged: Place Sel PieceS Rank RankS ModC Inv Wd Use UseI FoldE Pairs PairsI PairsS.
-/
import Derived.Test.YtgdbpkpaacbhhaaP1
import Derived.Deep.RegionWith


/-
  PlaceSum in the program and in the reference.
-/
namespace Go.Proofs.Ytgdbpkpaacbhhaa
open Go.RowKit

theorem emod_b {a m : Int} (hm : 0 < m) : 0 ≤ a % m ∧ a % m < m := ⟨Int.emod_nonneg a (by omega), Int.emod_lt_of_pos a hm⟩
theorem mul_b {a b : Int} (h0 : 0 ≤ a) (h1 : a ≤ 1000000000) (h2 : 0 ≤ b) (h3 : b ≤ 1000000000) : 0 ≤ a * b ∧ a * b ≤ 1000000000000000000 := by
  refine ⟨Int.mul_nonneg h0 h2, ?_⟩
  have := Int.mul_le_mul h1 h3 h2 (show (0 : Int) ≤ 1000000000 by omega)
  omega
def plF (_ : Nat) : Int := 0
def plG (ls : List Int) (cs : List Q4) (l : Nat) (m : Int) (x y : Int) (r : Fac) : Int := (x + y + (ls.getD r.a.toNat 0) % m * (((cs.getD r.b.toNat Q4.nil).at_ l) % m)) % m
theorem pl_prod {rs : List Fac} {ls : List Int} (hls : gLens rs [] = some ls) {m : Int} (h1 : 1 ≤ m) (h2 : m ≤ 1000000000) {i j : Nat} (hi : i < rs.length) (hj : j < rs.length) (l : Nat) :
    0 ≤ (ls.getD i 0) % m * ((((cnts rs).getD j Q4.nil).at_ l) % m) ∧ (ls.getD i 0) % m * ((((cnts rs).getD j Q4.nil).at_ l) % m) ≤ 1000000000000000000 := by
  have a1 := lens_bound hls hi
  have a2 := cnt_at hls hj l
  have b1 := emod_b (a := ls.getD i 0) (m := m) (by omega)
  have b2 := emod_b (a := ((cnts rs).getD j Q4.nil).at_ l) (m := m) (by omega)
  exact mul_b b1.1 (by omega) b2.1 (by omega)
theorem pl_bound {rs : List Fac} {ls : List Int} (hls : gLens rs [] = some ls) {l : Nat} {m : Int} (h1 : 1 ≤ m) (h2 : m ≤ 1000000000) {k : Nat} (hk : k < rs.length) :
    0 ≤ (full 0 plF (plG ls (cnts rs) l m) rs).getD k 0 ∧ (full 0 plF (plG ls (cnts rs) l m) rs).getD k 0 ≤ 1000000000 := by
  refine full_ind 0 plF (plG ls (cnts rs) l m) (wf_of hls) (fun _ x => 0 ≤ x ∧ x ≤ 1000000000) (fun k r _ _ => ?_) (fun k r a b hr h0 ha0 ha1 hb0 hb1 ha hb => ?_) k hk
  · show (0 : Int) ≤ 0 ∧ (0 : Int) ≤ 1000000000
    omega
  · have hk : k < rs.length := (List.getElem?_eq_some_iff.1 hr).1
    have p := pl_prod hls h1 h2 (i := r.a.toNat) (j := r.b.toNat) (by omega) (by omega) l
    have q := emod_b (a := a + b + (ls.getD r.a.toNat 0) % m * ((((cnts rs).getD r.b.toNat Q4.nil).at_ l) % m)) (m := m) (by omega)
    exact ⟨q.1, by show (a + b + _) % m ≤ _; omega⟩
def topI (F : Nat → Int) (G : Int → Int → Fac → Int) (rs : List Fac) : Int := if rs.length = 0 then 0 else (full 0 F G rs).getD (rs.length - 1) 0
def placeV (rs : List Fac) (s : ByteArray) (m : Int) : Value :=
  if (gOk rs).isSome = false then tup2 0 1 else if letT s = false then tup2 0 1 else if inB m 1 1000000000 = false then tup2 0 2
  else tup2 (topI plF (plG ((gLens rs []).getD []) (cnts rs) (letN s) m) rs) 0
theorem placeV_form (rs : List Fac) (s : ByteArray) (m : Int) : ∃ b k, placeV rs s m = .tuple #[.int .i64 b, .int .i64 k] := by
  unfold placeV
  split
  · exact ⟨_, _, rfl⟩
  split
  · exact ⟨_, _, rfl⟩
  split
  · exact ⟨_, _, rfl⟩
  · exact ⟨_, _, rfl⟩
theorem Rd.q4 {w : World} {B n : Nat} {A : Option Addr} {xs : List Q4} {k : Nat} (h : Rd w B A n 4 encQ4 xs) (hk : k < n) {l : Nat} (hl : l < 4) :
    ∃ b o, A = some ⟨b, o, none⟩ ∧ b < B ∧ w.cell? ⟨b, o + k * 4 + l, none⟩ = some (.int .i64 ((xs.getD k Q4.nil).at_ l)) := by
  obtain ⟨b, o, hA, hb, x, hx, hc⟩ := h.at_ hk
  refine ⟨b, o, hA, hb, ?_⟩
  rw [hc l _ (encQ4_at x hl), List.getD_eq_getElem?_getD, hx]; rfl
theorem placeV1 {rs : List Fac} {s : ByteArray} {m : Int} (h : (gOk rs).isSome = false) : placeV rs s m = tup2 0 1 := by unfold placeV; rw [if_pos h]
theorem placeV2 {rs : List Fac} {s : ByteArray} {m : Int} (h : (gOk rs).isSome = true) (h2 : letT s = false) : placeV rs s m = tup2 0 1 := by unfold placeV; rw [if_neg (by rw [h]; decide), if_pos h2]
theorem placeV3 {rs : List Fac} {s : ByteArray} {m : Int} (h : (gOk rs).isSome = true) (h2 : letT s = true) (h3 : inB m 1 1000000000 = false) : placeV rs s m = tup2 0 2 := by unfold placeV; rw [if_neg (by rw [h]; decide), if_neg (by rw [h2]; decide), if_pos h3]
theorem placeV4 {rs : List Fac} {ls : List Int} {s : ByteArray} {m : Int} (hls : gLens rs [] = some ls) (h : (gOk rs).isSome = true) (h2 : letT s = true) (h3 : inB m 1 1000000000 = true) : placeV rs s m = tup2 (topI plF (plG ls (cnts rs) (letN s) m) rs) 0 := by
  unfold placeV; rw [if_neg (by rw [h]; decide), if_neg (by rw [h2]; decide), if_neg (by rw [h3]; decide), hls]; rfl
theorem top_topI (F : Nat → Int) (G : Int → Int → Fac → Int) (rs : List Fac) : (foldAll 0 F G 0 rs).getD ((foldAll 0 F G 0 rs).length - 1) 0 = topI F G rs := foldAll_top _ _ _ _ rs
theorem isMod_any (m : Int) (b : Bool) (w : World) (hb : inB m 1 1000000000 = b) : Calls Try.prog 46 #[.int .i64 m] w (Ret (.bool b) w) := by
  have Hb := Lib.hid hb; clear hb
  go_enter Try.func46, Try.ntmps46
  go_wp2_with fail
  refine (within_any m 1 1000000000 b _ Hb.out).mono ?_
  rintro e w1 ⟨rfl, hb1⟩
  go_wp2_with fail
  go_ret
  exact ⟨rfl, hb1⟩
theorem elemI : Elem Try.prog 46 2 1 8 := Elem.mk' (z := .int .i64 0) Try.underlying46 (by kernel_rfl) rfl
end Go.Proofs.Ytgdbpkpaacbhhaa


/-
  SelectOf in the program and in the reference.
-/
namespace Go.Proofs.Ytgdbpkpaacbhhaa
open Go.RowKit

def selGo (cs : List Q4) (ls : List Int) (rs : List Fac) (l : Nat) : Nat → Nat → Int → Int → Int
  | 0, _, _, n => n
  | f + 1, r, k, n =>
    match rs[r]? with
    | none => n
    | some x => if x.l.size = 0 then (if k < (cs.getD x.a.toNat Q4.nil).at_ l then selGo cs ls rs l f x.a.toNat k n else selGo cs ls rs l f x.b.toNat (k - (cs.getD x.a.toNat Q4.nil).at_ l) (n + ls.getD x.a.toNat 0)) else n
theorem selGo_step {cs : List Q4} {ls : List Int} {rs : List Fac} {l : Nat} {f r : Nat} {k n : Int} {x : Fac} (hf : r < f) (hx : rs[r]? = some x) (h0 : x.l.size = 0) :
    selGo cs ls rs l f r k n = if k < (cs.getD x.a.toNat Q4.nil).at_ l then selGo cs ls rs l (f - 1) x.a.toNat k n else selGo cs ls rs l (f - 1) x.b.toNat (k - (cs.getD x.a.toNat Q4.nil).at_ l) (n + ls.getD x.a.toNat 0) := by
  obtain ⟨g, rfl⟩ : ∃ g, f = g + 1 := ⟨f - 1, by omega⟩
  rw [selGo, hx]
  simp only [if_pos h0, Nat.add_sub_cancel]
theorem selGo_stop {cs : List Q4} {ls : List Int} {rs : List Fac} {l : Nat} {f r : Nat} {k n : Int} {x : Fac} (hf : r < f) (hx : rs[r]? = some x) (h0 : x.l.size ≠ 0) : selGo cs ls rs l f r k n = n := by
  obtain ⟨g, rfl⟩ : ∃ g, f = g + 1 := ⟨f - 1, by omega⟩
  rw [selGo, hx]
  simp only [if_neg h0]
def topQ (rs : List Fac) : Q4 := if rs.length = 0 then Q4.nil else (cnts rs).getD (rs.length - 1) Q4.nil
theorem top_topQ (rs : List Fac) : (foldAll Q4.nil cntF cntG Q4.nil rs).getD ((foldAll Q4.nil cntF cntG Q4.nil rs).length - 1) Q4.nil = topQ rs := foldAll_top _ _ _ _ rs
def selV (rs : List Fac) (s : ByteArray) (k : Int) : Value :=
  if (gOk rs).isSome = false then tup2 0 1 else if letT s = false then tup2 0 1 else if k < 0 then tup2 0 2
  else if (topQ rs).at_ (letN s) ≤ k then tup2 0 6 else tup2 (selGo (cnts rs) ((gLens rs []).getD []) rs (letN s) rs.length (rs.length - 1) k 0) 0
theorem selV_form (rs : List Fac) (s : ByteArray) (k : Int) : ∃ b j, selV rs s k = .tuple #[.int .i64 b, .int .i64 j] := by
  unfold selV
  split
  · exact ⟨_, _, rfl⟩
  split
  · exact ⟨_, _, rfl⟩
  split
  · exact ⟨_, _, rfl⟩
  split
  · exact ⟨_, _, rfl⟩
  · exact ⟨_, _, rfl⟩
theorem selV1 {rs : List Fac} {s : ByteArray} {k : Int} (h : (gOk rs).isSome = false) : selV rs s k = tup2 0 1 := by unfold selV; rw [if_pos h]
theorem selV2 {rs : List Fac} {s : ByteArray} {k : Int} (h : (gOk rs).isSome = true) (h2 : letT s = false) : selV rs s k = tup2 0 1 := by unfold selV; rw [if_neg (by rw [h]; decide), if_pos h2]
theorem selV3 {rs : List Fac} {s : ByteArray} {k : Int} (h : (gOk rs).isSome = true) (h2 : letT s = true) (h3 : k < 0) : selV rs s k = tup2 0 2 := by unfold selV; rw [if_neg (by rw [h]; decide), if_neg (by rw [h2]; decide), if_pos h3]
theorem selV4 {rs : List Fac} {s : ByteArray} {k : Int} (h : (gOk rs).isSome = true) (h2 : letT s = true) (h3 : 0 ≤ k) (h4 : (topQ rs).at_ (letN s) ≤ k) : selV rs s k = tup2 0 6 := by
  unfold selV; rw [if_neg (by rw [h]; decide), if_neg (by rw [h2]; decide), if_neg (by omega), if_pos h4]
theorem selV5 {rs : List Fac} {ls : List Int} {s : ByteArray} {k : Int} (hls : gLens rs [] = some ls) (h : (gOk rs).isSome = true) (h2 : letT s = true) (h3 : 0 ≤ k) (h4 : k < (topQ rs).at_ (letN s)) : selV rs s k = tup2 (selGo (cnts rs) ls rs (letN s) rs.length (rs.length - 1) k 0) 0 := by
  unfold selV; rw [if_neg (by rw [h]; decide), if_neg (by rw [h2]; decide), if_neg (by omega), if_neg (by omega), hls]; rfl
end Go.Proofs.Ytgdbpkpaacbhhaa


/-
  Sums over the rules that are met for a beginning of the word.
-/
namespace Go.Proofs.Ytgdbpkpaacbhhaa
open Go.RowKit

/-- the sum of values for the first letters of a rule's word -/
def rk (v : Nat → Int) (ls : List Int) (rs : List Fac) : Nat → Nat → Int → Int
  | 0, _, _ => 0
  | f + 1, r, m =>
    if m ≤ 0 then 0 else if ls.getD r 0 ≤ m then v r else
    match rs[r]? with
    | none => 0
    | some x => rk v ls rs f x.a.toNat m + rk v ls rs f x.b.toNat (m - ls.getD x.a.toNat 0)
section
variable {v : Nat → Int} {ls : List Int} {rs : List Fac}
theorem rk_zero {f r : Nat} {m : Int} (h : m ≤ 0) : rk v ls rs f r m = 0 := by
  cases f with
  | zero => rfl
  | succ f => rw [rk, if_pos h]
theorem rk_full {f r : Nat} {m : Int} (hf : r < f) (h0 : 0 < m) (h : ls.getD r 0 ≤ m) : rk v ls rs f r m = v r := by
  obtain ⟨g, rfl⟩ : ∃ g, f = g + 1 := ⟨f - 1, by omega⟩
  rw [rk, if_neg (by omega), if_pos h]
theorem rk_go {f r : Nat} {m : Int} {x : Fac} (hf : r < f) (h0 : 0 < m) (h : m < ls.getD r 0) (hx : rs[r]? = some x) : rk v ls rs f r m = rk v ls rs (f - 1) x.a.toNat m + rk v ls rs (f - 1) x.b.toNat (m - ls.getD x.a.toNat 0) := by
  obtain ⟨g, rfl⟩ : ∃ g, f = g + 1 := ⟨f - 1, by omega⟩
  rw [rk, if_neg (by omega), if_neg (by omega), hx]
  rfl
def sumL (v : Nat → Int) : List Nat → Int
  | [] => 0
  | k :: r => v k + sumL v r
theorem sumL_app (v : Nat → Int) : ∀ a b : List Nat, sumL v (a ++ b) = sumL v a + sumL v b
  | [], b => by simp [sumL]
  | k :: r, b => by simp only [List.cons_append, sumL, sumL_app v r b]; omega
theorem pcs_sum (hls : gLens rs [] = some ls) (j : Int) : ∀ (f r : Nat) (a : Int), r < rs.length → 0 ≤ a → sumL v (pcs ls rs 0 j f r a) = rk v ls rs f r (j - a)
  | 0, _, _, _, _ => rfl
  | f + 1, r, a, hr, ha => by
    have lb := lens_bound hls hr
    rw [pcs, rk, if_neg (show ¬ a + ls.getD r 0 ≤ 0 by omega)]
    by_cases h2 : j ≤ a
    · rw [if_pos h2, if_pos (show j - a ≤ 0 by omega)]; rfl
    rw [if_neg h2, if_neg (show ¬ j - a ≤ 0 by omega)]
    by_cases h3 : a + ls.getD r 0 ≤ j
    · rw [if_pos (show 0 ≤ a ∧ a + ls.getD r 0 ≤ j from ⟨ha, h3⟩), if_pos (show ls.getD r 0 ≤ j - a by omega)]; simp [sumL]
    rw [if_neg (show ¬ (0 ≤ a ∧ a + ls.getD r 0 ≤ j) from fun h => h3 h.2), if_neg (show ¬ ls.getD r 0 ≤ j - a by omega)]
    have hx : rs[r]? = some (rs[r]'hr) := List.getElem?_eq_getElem _
    rw [hx]
    generalize rs[r]'hr = x at *
    have hab : x.a.toNat < rs.length ∧ x.b.toNat < rs.length := by
      rcases wf_of hls r x hx with ⟨_, h4, h5, h6, h7⟩ | ⟨_, _, _, h5, h6⟩
      · omega
      · rw [h5, h6]; show 0 < _ ∧ 0 < _; omega
    have lb2 := lens_bound hls hab.1
    show sumL v (pcs ls rs 0 j f x.a.toNat a ++ pcs ls rs 0 j f x.b.toNat (a + ls.getD x.a.toNat 0)) = _
    rw [sumL_app, pcs_sum hls j f _ a hab.1 ha, pcs_sum hls j f _ _ hab.2 (by omega), show j - (a + ls.getD x.a.toNat 0) = j - a - ls.getD x.a.toNat 0 by omega]
theorem rk_fuel (hls : gLens rs [] = some ls) : ∀ {r f g : Nat} {m : Int}, r < f → r < g → r < rs.length → rk v ls rs f r m = rk v ls rs g r m := by
  intro r
  induction r using Nat.strongRecOn with
  | ind r ih =>
    intro f g m hf hg hr
    by_cases h0 : m ≤ 0
    · rw [rk_zero h0, rk_zero h0]
    by_cases h1 : ls.getD r 0 ≤ m
    · rw [rk_full hf (by omega) h1, rk_full hg (by omega) h1]
    have hx : rs[r]? = some (rs[r]'hr) := List.getElem?_eq_getElem _
    generalize rs[r]'hr = x at *
    rcases wf_of hls r x hx with ⟨_, ha0, ha1, hb0, hb1⟩ | ⟨cc, _, hxl, _⟩
    · rw [rk_go hf (by omega) (by omega) hx, rk_go hg (by omega) (by omega) hx, ih x.a.toNat (by omega) (f := f - 1) (g := g - 1) (by omega) (by omega) (by omega), ih x.b.toNat (by omega) (f := f - 1) (g := g - 1) (by omega) (by omega) (by omega)]
    · exfalso
      have := lens_let hls hx (show x.l.size ≠ 0 by rw [hxl]; show (1 : Nat) ≠ 0; omega)
      omega
/-- between 0 and the length, where each value is -/
theorem rk_bound (hls : gLens rs [] = some ls) {c : Int} (hc : 0 ≤ c) (hv : ∀ k, k < rs.length → -(c * ls.getD k 0) ≤ v k ∧ v k ≤ c * ls.getD k 0) : ∀ (f r : Nat) (m : Int), r < rs.length → 0 ≤ m → -(c * m) ≤ rk v ls rs f r m ∧ rk v ls rs f r m ≤ c * m
  | 0, r, m, _, hm => by
    have := Int.mul_nonneg hc hm
    exact ⟨by show _ ≤ (0 : Int); omega, by show (0 : Int) ≤ _; omega⟩
  | f + 1, r, m, hr, hm => by
    have hcm := Int.mul_nonneg hc hm
    rw [rk]
    by_cases h0 : m ≤ 0
    · rw [if_pos h0]; omega
    rw [if_neg h0]
    by_cases h1 : ls.getD r 0 ≤ m
    · rw [if_pos h1]
      have := hv r hr
      have := Int.mul_le_mul_of_nonneg_left h1 hc
      omega
    rw [if_neg h1]
    have hx : rs[r]? = some (rs[r]'hr) := List.getElem?_eq_getElem _
    rw [hx]
    generalize rs[r]'hr = x at *
    have hab : x.a.toNat < rs.length ∧ x.b.toNat < rs.length := by
      rcases wf_of hls r x hx with ⟨_, h4, h5, h6, h7⟩ | ⟨_, _, _, h5, h6⟩
      · omega
      · rw [h5, h6]; show 0 < _ ∧ 0 < _; omega
    have lb2 := lens_bound hls hab.1
    show -(c * m) ≤ rk v ls rs f x.a.toNat m + rk v ls rs f x.b.toNat (m - ls.getD x.a.toNat 0) ∧ rk v ls rs f x.a.toNat m + rk v ls rs f x.b.toNat (m - ls.getD x.a.toNat 0) ≤ c * m
    by_cases h2 : m ≤ ls.getD x.a.toNat 0
    · rw [rk_zero (r := x.b.toNat) (show m - ls.getD x.a.toNat 0 ≤ 0 by omega)]
      have := rk_bound hls hc hv f x.a.toNat m hab.1 hm
      omega
    · have e1 : f = 0 ∨ rk v ls rs f x.a.toNat m = v x.a.toNat := by
        cases f with
        | zero => exact Or.inl rfl
        | succ f => right; rw [rk, if_neg h0, if_pos (by omega)]
      rcases e1 with e1 | e1
      · subst e1
        show -(c * m) ≤ (0 : Int) + 0 ∧ (0 : Int) + 0 ≤ c * m
        omega
      · rw [e1]
        have a1 := hv x.a.toNat hab.1
        have a2 := rk_bound hls hc hv f x.b.toNat (m - ls.getD x.a.toNat 0) hab.2 (by omega)
        rw [Int.mul_sub] at a2
        omega
end
theorem wrap_add (a b : Int) : wrap64 (wrap64 a + b) = wrap64 (a + b) := by unfold wrap64; omega
theorem wrap_in {a : Int} (h0 : -9223372036854775808 ≤ a) (h1 : a ≤ 9223372036854775807) : wrap64 a = a := by unfold wrap64; omega
theorem fold_wrap (v : Nat → Int) : ∀ (l : List Nat) (s : Int), -9223372036854775808 ≤ s → s ≤ 9223372036854775807 → l.foldl (fun s k => wrap64 (s + v k)) s = wrap64 (s + sumL v l)
  | [], s, h0, h1 => by simp only [List.foldl_nil, sumL, Int.add_zero]; rw [wrap_in h0 h1]
  | k :: r, s, h0, h1 => by
    rw [List.foldl_cons, fold_wrap v r _ (by unfold wrap64; omega) (by unfold wrap64; omega), wrap_add, sumL, Int.add_assoc]
/-- the whole sum -/
def rkT (v : Nat → Int) (ls : List Int) (rs : List Fac) (m : Int) : Int := if rs.length = 0 then 0 else rk v ls rs rs.length (rs.length - 1) m
theorem pcsT_sum {v : Nat → Int} {ls : List Int} {rs : List Fac} (hls : gLens rs [] = some ls) {m : Int} (hm : 0 ≤ m) : sumL v (pcsT ls rs 0 m) = rkT v ls rs m := by
  unfold pcsT rkT
  by_cases h0 : rs.length = 0
  · rw [if_neg (by omega), if_pos h0]; rfl
  rw [if_neg h0]
  by_cases h1 : 0 < m
  · rw [if_pos (by omega), pcs_sum hls m rs.length _ 0 (by omega) (by omega), Int.sub_zero]
  · rw [if_neg (by omega), rk_zero (by omega)]; rfl
theorem fold_pcsT {v : Nat → Int} {ls : List Int} {rs : List Fac} (hls : gLens rs [] = some ls) {m : Int} (hm : 0 ≤ m) {c : Int} (hc : 0 ≤ c) (hv : ∀ k, k < rs.length → -(c * ls.getD k 0) ≤ v k ∧ v k ≤ c * ls.getD k 0) (hb : c * m ≤ 9000000000000000000) :
    (pcsT ls rs 0 m).foldl (fun s k => wrap64 (s + v k)) 0 = rkT v ls rs m := by
  have h : -(c * m) ≤ rkT v ls rs m ∧ rkT v ls rs m ≤ c * m := by
    have := Int.mul_nonneg hc hm
    unfold rkT
    by_cases h0 : rs.length = 0
    · rw [if_pos h0]; omega
    · rw [if_neg h0]; exact rk_bound hls hc hv _ _ _ (by omega) hm
  rw [fold_wrap v _ 0 (by omega) (by omega), pcsT_sum hls hm, Int.zero_add, wrap_in (by omega) (by omega)]
end Go.Proofs.Ytgdbpkpaacbhhaa


/-
  RankOf in the program.
-/
namespace Go.Proofs.Ytgdbpkpaacbhhaa
open Go.RowKit

def rkV (rs : List Fac) (l : Nat) (k : Nat) : Int := ((cnts rs).getD k Q4.nil).at_ l
theorem rkV_bound {rs : List Fac} {ls : List Int} (hls : gLens rs [] = some ls) (l : Nat) : ∀ k, k < rs.length → -(1 * ls.getD k 0) ≤ rkV rs l k ∧ rkV rs l k ≤ 1 * ls.getD k 0 := fun k hk => by
  have := (cnt_bound hls hk).at_ l
  have := lens_bound hls hk
  unfold rkV
  omega
def rankV (rs : List Fac) (s : ByteArray) (m : Int) : Value :=
  if (gOk rs).isSome = false then tup2 0 1 else if letT s = false then tup2 0 1 else if inB m 0 (lastI ((gLens rs []).getD [])) = false then tup2 0 2
  else tup2 (rkT (rkV rs (letN s)) ((gLens rs []).getD []) rs m) 0
theorem rankV_form (rs : List Fac) (s : ByteArray) (m : Int) : ∃ b k, rankV rs s m = .tuple #[.int .i64 b, .int .i64 k] := by
  unfold rankV
  split
  · exact ⟨_, _, rfl⟩
  split
  · exact ⟨_, _, rfl⟩
  split
  · exact ⟨_, _, rfl⟩
  · exact ⟨_, _, rfl⟩
theorem rankV1 {rs : List Fac} {s : ByteArray} {m : Int} (h : (gOk rs).isSome = false) : rankV rs s m = tup2 0 1 := by unfold rankV; rw [if_pos h]
theorem rankV2 {rs : List Fac} {s : ByteArray} {m : Int} (h : (gOk rs).isSome = true) (h2 : letT s = false) : rankV rs s m = tup2 0 1 := by unfold rankV; rw [if_neg (by rw [h]; decide), if_pos h2]
theorem rankV3 {rs : List Fac} {ls : List Int} {s : ByteArray} {m : Int} (hls : gLens rs [] = some ls) (h : (gOk rs).isSome = true) (h2 : letT s = true) (h3 : inB m 0 (lastI ls) = false) : rankV rs s m = tup2 0 2 := by
  unfold rankV; rw [if_neg (by rw [h]; decide), if_neg (by rw [h2]; decide), hls, if_pos (show inB m 0 (lastI ((some ls).getD [])) = false from h3)]
theorem rankV4 {rs : List Fac} {ls : List Int} {s : ByteArray} {m : Int} (hls : gLens rs [] = some ls) (h : (gOk rs).isSome = true) (h2 : letT s = true) (h3 : inB m 0 (lastI ls) = true) : rankV rs s m = tup2 (rkT (rkV rs (letN s)) ls rs m) 0 := by
  have : ¬ inB m 0 (lastI (Option.getD (some ls) [])) = false := by show ¬ inB m 0 (lastI ls) = false; rw [h3]; decide
  unfold rankV; rw [if_neg (by rw [h]; decide), if_neg (by rw [h2]; decide), hls, if_neg this]; rfl
theorem lastI_bound {rs : List Fac} {ls : List Int} (hls : gLens rs [] = some ls) (hl : ls.length = rs.length) : 0 ≤ lastI ls ∧ lastI ls ≤ 1000000000000000 := by
  unfold lastI
  by_cases h0 : rs.length = 0
  · rw [List.eq_nil_of_length_eq_zero (hl.trans h0)]; show (0 : Int) ≤ 0 ∧ (0 : Int) ≤ 1000000000000000; omega
  · have := lens_bound hls (i := ls.length - 1) (by omega)
    omega
end Go.Proofs.Ytgdbpkpaacbhhaa


/-
  RankOf in the reference.
-/
namespace Go.Proofs.Ytgdbpkpaacbhhaa
open Go.RowKit

set_option maxHeartbeats 2000000 in
set_option maxRecDepth 100000 in
theorem l05Rank_any (gb : Nat) (A : Option Addr) (n c : Nat) (rs : List Fac) (A2 : Option Addr) (c2 : Nat) (A3 : Option Addr) (c3 : Nat) (ls : List Int) (l : Nat) (m0 : Int) (w : World) (hg : gb < w.heap.size) (hc : w.cell? ⟨gb, 0, none⟩ = some (.slice A n c)) (hn : n ≤ 1048576) (hr : Rd w w.heap.size A n 3 Fac.cells rs)
    (hls : gLens rs [] = some ls) (hll : ls.length = rs.length) (h2 : Rd w w.heap.size A2 n 1 intE ls) (hT : Tab w w.heap.size A3 n (cnts rs)) (hl4 : l < 4) (hm0 : 0 ≤ m0) (hm1 : m0 ≤ lastI ls) :
    Calls Try.prog 77 #[.pointer (some ⟨gb, 0, none⟩), .slice A2 n c2, .slice A3 n c3, .int .i64 (l : Int), .int .i64 m0] w (Ret (.int .i64 (rkT (rkV rs l) ls rs m0)) w) := by
  have hl := Lib.hid hr.len
  have R2 := Lib.hid hr; clear hr
  have HL := Lib.hid hls; clear hls
  have Hll := Lib.hid hll; clear hll
  have r22 := Lib.hid h2; clear h2
  have T2 := Lib.hid hT; clear hT
  have HW := Lib.hid (wf_of HL.out)
  have HV := Lib.hid (rkV_bound HL.out l)
  by_cases h0 : m0 ≤ 0
  · have e := Lib.hid (show rkT (rkV rs l) ls rs m0 = 0 by unfold rkT; split; rfl; exact rk_zero h0)
    obtain rfl : m0 = 0 := by omega
    rw [e.out]
    go_enter Try.func77, Try.ntmps77
    go_wp2_with fail
    go_loopw [4, 11] (fun m_ s_ w' => m_ = .int .i64 0 ∧ s_ = .int .i64 0 ∧ w' = w) (fun _ _ _ => 0)
    case atStart => exact ⟨rfl, rfl, rfl⟩
    case round =>
      obtain ⟨rfl, rfl, rfl⟩ := hrel
      go_wp2_with fail
      go_ret
      exact ⟨rfl, Below.refl _ _⟩
  have hpos : 0 < rs.length := by
    rcases Nat.eq_zero_or_pos rs.length with h | h
    · exfalso
      unfold lastI at hm1
      rw [List.eq_nil_of_length_eq_zero (Hll.out.trans h)] at hm1
      have : m0 ≤ 0 := hm1
      omega
    · exact h
  have hm2 : m0 ≤ ls.getD (n - 1) 0 := by
    unfold lastI at hm1
    rw [Hll.out, hl.out] at hm1
    exact hm1
  have e := Lib.hid (show rkT (rkV rs l) ls rs m0 = rk (rkV rs l) ls rs n (n - 1) m0 by unfold rkT; rw [if_neg (by omega), hl.out])
  rw [e.out]
  rw [hl.out] at hpos
  clear e hm1
  go_enter Try.func77, Try.ntmps77
  go_wp2_with fail
  go_loopw [4, 11, 12] (fun m_ s_ r_ w' => ∃ (r f : Nat) (m s : Int), r_ = .int .i64 r ∧ s_ = .int .i64 s ∧ m_ = .int .i64 m ∧ r < n ∧ r < f ∧ Below w.heap.size w w' ∧
      (0 ≤ m ∧ m ≤ ls.getD r 0 ∧ 0 ≤ s ∧ s + m ≤ 1000000000000000) ∧ Hid (rk (rkV rs l) ls rs n (n - 1) m0 = s + rk (rkV rs l) ls rs f r m)) (fun _ _ r_ _ => (intOf r_).toNat)
  case atStart =>
    have := lens_bound HL.out (i := n - 1) (by rw [hl.out]; omega)
    exact ⟨n - 1, n, m0, 0, by go_num, rfl, rfl, by omega, by omega, Below.refl _ _, by omega, Lib.hid (by omega)⟩
  case round =>
    obtain ⟨r, f, m, s, rfl, rfl, rfl, hrn, hrf, hb, ⟨g1, g2, g3, g4⟩, H⟩ := hrel
    by_cases hm : m ≤ 0
    · have H' := Lib.hid (show rk (rkV rs l) ls rs n (n - 1) m0 = s by rw [H.out, rk_zero hm]; omega)
      clear H
      go_wp2_with fail
      go_ret
      exact ⟨ret_int H'.out.symm, hb⟩
    obtain ⟨b, o, x, rfl, hB, gx, c0, c1, c2⟩ := (R2.out.next hb).fac hrn
    have cg := (hb.cell (p := ⟨gb, 0, none⟩) hg).trans hc
    have lg : gb < wr.heap.size := by have := hb.size; omega
    obtain ⟨p2, o2, rfl, hB2, l0⟩ := (r22.out.next hb).i64 (k := r) hrn
    obtain ⟨p1, o1, gr, rfl, hB1, hgr, d1, d2⟩ := (T2.out.next hb).2 r hrn
    have d3 := d2 l hl4
    have hvr := HV.out r (by rw [hl.out]; exact hrn)
    have hcr := cnt_at HL.out (k := r) (by rw [hl.out]; exact hrn) l
    have hlr := lens_bound HL.out (i := r) (by rw [hl.out]; exact hrn)
    have i0 : (0 : Int) ≤ (l : Int) := by omega
    have i1 : (l : Int) < 4 := by omega
    have i2 : (0 : Int) ≤ (r : Int) := by omega
    have i3 : (r : Int) < (n : Int) := by omega
    have ev : rkV rs l r = ((cnts rs).getD r Q4.nil).at_ l := rfl
    clear d2
    by_cases hmr : m = ls.getD r 0
    · have H' := Lib.hid (show rk (rkV rs l) ls rs n (n - 1) m0 = s + ((cnts rs).getD r Q4.nil).at_ l by rw [H.out, rk_full hrf (by omega) (by omega)]; rfl)
      rw [ev] at hvr
      generalize ((cnts rs).getD r Q4.nil).at_ l = v at *
      have u1 : IntKind.i64.wrap (s + v) = s + v := IntWalk.i64_in _ (by omega)
      have hbe : (m == ls.getD r 0) = true := by simpa using hmr
      generalize ls.getD r 0 = lr at *
      clear H
      go_wp2_with fail
      go_ret
      exact ⟨ret_int H'.out.symm, hb⟩
    have hbe : (m == ls.getD r 0) = false := by simpa using hmr
    rcases HW.out r x gx with ⟨h0', ha0, ha1, hb0', hb1'⟩ | ⟨cc, hcc, hxl, hxa, hxb⟩
    case inr =>
      exfalso
      have := lens_let HL.out gx (show x.l.size ≠ 0 by rw [hxl]; show (1 : Nat) ≠ 0; omega)
      omega
    have H1 := rk_go (v := rkV rs l) hrf (show 0 < m by omega) (show m < ls.getD r 0 by omega) gx
    have lp := lens_pair HL.out gx h0'
    have lb1 := lens_bound HL.out (i := x.a.toNat) (by rw [hl.out]; omega)
    have lb2 := lens_bound HL.out (i := x.b.toNat) (by rw [hl.out]; omega)
    obtain ⟨p3, o3, hA3, hB3, l1⟩ := (r22.out.next hb).i64 (k := x.a.toNat) (by omega)
    obtain ⟨rfl, rfl⟩ : p2 = p3 ∧ o2 = o3 := by injection hA3 with hA3; injection hA3 with h1 h2; exact ⟨h1, h2⟩
    obtain ⟨p4, o4, ga, hA4, hB4, hga, d4, d5⟩ := (T2.out.next hb).2 x.a.toNat (by omega)
    obtain ⟨rfl, rfl⟩ : p1 = p4 ∧ o1 = o4 := by injection hA4 with hA4; injection hA4 with h1 h2; exact ⟨h1, h2⟩
    have d6 := d5 l hl4
    have hva := HV.out x.a.toNat (by rw [hl.out]; omega)
    have hca := cnt_at HL.out (k := x.a.toNat) (by rw [hl.out]; omega) l
    have eva : rkV rs l x.a.toNat = ((cnts rs).getD x.a.toNat Q4.nil).at_ l := rfl
    rw [eva] at hva
    clear hA3 hA4 d5 ev hvr hcr hmr
    by_cases q4 : ls.getD x.a.toNat 0 ≤ m
    · have H2 := Lib.hid (show rk (rkV rs l) ls rs n (n - 1) m0 = s + ((cnts rs).getD x.a.toNat Q4.nil).at_ l + rk (rkV rs l) ls rs (f - 1) x.b.toNat (m - ls.getD x.a.toNat 0) by
        rw [H.out, H1, rk_full (r := x.a.toNat) (by omega) (by omega) q4, eva]; omega)
      generalize ((cnts rs).getD x.a.toNat Q4.nil).at_ l = v at *
      generalize hya : ls.getD x.a.toNat 0 = ya at *
      generalize hyr : ls.getD r 0 = lr at *
      have u1 : IntKind.i64.wrap (s + v) = s + v := IntWalk.i64_in _ (by omega)
      have u2 : IntKind.i64.wrap (m - ya) = m - ya := IntWalk.i64_in _ (by clear u1; omega)
      have LP := Lib.hid lp
      clear H H1 gx lp
      go_wp2_with fail
      clear u1 u2
      have lp := LP.out
      go_roundw
      case rel => exact ⟨x.b.toNat, f - 1, m - ya, s + v, by go_num, rfl, rfl, by omega, by omega, hb.alloc hb.size _, ⟨by omega, by omega, by omega, by omega⟩, H2⟩
      case measure => simp [intOf]; omega
    · have H2 := Lib.hid (show rk (rkV rs l) ls rs n (n - 1) m0 = s + rk (rkV rs l) ls rs (f - 1) x.a.toNat m by
        rw [H.out, H1, rk_zero (r := x.b.toNat) (show m - ls.getD x.a.toNat 0 ≤ 0 by omega)]; omega)
      generalize hya : ls.getD x.a.toNat 0 = ya at *
      generalize hyr : ls.getD r 0 = lr at *
      have LP := Lib.hid lp
      clear H H1 gx lp
      go_wp2_with fail
      have lp := LP.out
      go_roundw
      case rel => exact ⟨x.a.toNat, f - 1, m, s, by go_num, rfl, rfl, by omega, by omega, hb.alloc hb.size _, ⟨by omega, by omega, by omega, by omega⟩, H2⟩
      case measure => simp [intOf]; omega
end Go.Proofs.Ytgdbpkpaacbhhaa


/-
  The code of a grammar, a plain word and a modulus.
-/
namespace Go.Proofs.Ytgdbpkpaacbhhaa
open Go.RowKit

def modC (rs : List Fac) (p : ByteArray) (m : Int) : Int := if (gOk rs).isSome = false then 1 else if okW p = false then 1 else if inB m 1 1000000000 = false then 2 else 0
theorem l05Mod_any (gb : Nat) (A : Option Addr) (n c : Nat) (rs : List Fac) (p : ByteArray) (m : Int) (w : World) (hg : gb < w.heap.size) (hc : w.cell? ⟨gb, 0, none⟩ = some (.slice A n c)) (hn : n ≤ 1048576) (hr : Rd w w.heap.size A n 3 Fac.cells rs)
    (hok : ∀ f ∈ rs, f.l.size ≤ maxLen) (hp : p.size ≤ maxLen) : Calls Try.prog 63 #[.pointer (some ⟨gb, 0, none⟩), .string p, .int .i64 m] w (Ret (.int .i64 (modC rs p m)) w) := by
  have HR := Lib.hid hr; clear hr
  have HO := Lib.hid hok; clear hok
  rcases hgk : (gOk rs).isSome with _ | _
  · have Hg := Lib.hid hgk; clear hgk
    have e := Lib.hid (show modC rs p m = 1 by unfold modC; rw [if_pos Hg.out])
    go_enter Try.func63, Try.ntmps63
    go_wp2_with fail
    refine (l02Ok_any gb A n c rs _ hg hc (by omega) HR.out HO.out false Hg.out).mono ?_
    rintro e1 w1 ⟨rfl, hb1⟩
    go_wp2_with fail
    go_ret
    exact ⟨ret_int e.out.symm, hb1⟩
  have Hg := Lib.hid hgk; clear hgk
  rcases h2 : okW p with _ | _
  · have H2 := Lib.hid h2; clear h2
    have e := Lib.hid (show modC rs p m = 1 by unfold modC; rw [if_neg (by rw [Hg.out]; decide), if_pos H2.out])
    go_enter Try.func63, Try.ntmps63
    go_wp2_with fail
    refine (l02Ok_any gb A n c rs _ hg hc (by omega) HR.out HO.out true Hg.out).mono ?_
    rintro e1 w1 ⟨rfl, hb1⟩
    go_wp2_with fail
    refine (specOk_any p false _ hp H2.out).mono ?_
    rintro e1 w2 ⟨rfl, hb2⟩
    go_wp2_with fail
    go_ret
    exact ⟨ret_int e.out.symm, hb1.trans (hb2.mono hb1.size)⟩
  have H2 := Lib.hid h2; clear h2
  rcases h3 : inB m 1 1000000000 with _ | _
  all_goals
    have H3 := Lib.hid h3; clear h3
    have e := Lib.hid (show modC rs p m = if inB m 1 1000000000 = false then 2 else 0 by unfold modC; rw [if_neg (by rw [Hg.out]; decide), if_neg (by rw [H2.out]; decide)])
    rw [H3.out] at e
    go_enter Try.func63, Try.ntmps63
    go_wp2_with fail
    refine (l02Ok_any gb A n c rs _ hg hc (by omega) HR.out HO.out true Hg.out).mono ?_
    rintro e1 w1 ⟨rfl, hb1⟩
    go_wp2_with fail
    refine (specOk_any p true _ hp H2.out).mono ?_
    rintro e1 w2 ⟨rfl, hb2⟩
    go_wp2_with fail
    refine (specIn_any m 1 1000000000 _ _ H3.out).mono ?_
    rintro e1 w3 ⟨rfl, hb3⟩
    go_wp2_with fail
    go_ret
    exact ⟨ret_int e.out.symm, hb1.trans ((hb2.trans (hb3.mono hb2.size)).mono hb1.size)⟩
end Go.Proofs.Ytgdbpkpaacbhhaa


/-
  InversionCount in the program and in the reference.
-/
namespace Go.Proofs.Ytgdbpkpaacbhhaa
open Go.RowKit

def invP (p q : Q4) (m : Int) (k l : Nat) : Int := p.at_ k % m * (q.at_ l % m)
def invT (p q : Q4) (m : Int) (k : Nat) : Nat → Int
  | 0 => 0
  | l + 1 => invT p q m k l + (if l < k then invP p q m k l % m else 0)
def invS (p q : Q4) (m : Int) : Nat → Int
  | 0 => 0
  | k + 1 => invS p q m k + invT p q m k 4
def invG (cs : List Q4) (m : Int) (x y : Int) (r : Fac) : Int := (x + y + invS (cs.getD r.a.toNat Q4.nil) (cs.getD r.b.toNat Q4.nil) m 4) % m
theorem invT_b (p q : Q4) {m : Int} (h1 : 1 ≤ m) (h2 : m ≤ 1000000000) (k : Nat) : ∀ l : Nat, 0 ≤ invT p q m k l ∧ invT p q m k l ≤ 1000000000 * l
  | 0 => by simp [invT]
  | l + 1 => by
    have := invT_b p q h1 h2 k l
    have e := emod_b (a := invP p q m k l) (m := m) (by omega)
    unfold invT
    split <;> omega
theorem invS_b (p q : Q4) {m : Int} (h1 : 1 ≤ m) (h2 : m ≤ 1000000000) : ∀ k : Nat, 0 ≤ invS p q m k ∧ invS p q m k ≤ 4000000000 * k
  | 0 => by simp [invS]
  | k + 1 => by
    have := invS_b p q h1 h2 k
    have := invT_b p q h1 h2 k 4
    unfold invS
    omega
theorem invT_stop (p q : Q4) (m : Int) (k : Nat) : ∀ d : Nat, invT p q m k (k + d) = invT p q m k k
  | 0 => rfl
  | d + 1 => by
    rw [show k + (d + 1) = (k + d) + 1 by omega, invT, if_neg (by omega), invT_stop p q m k d]; omega
theorem invT_four (p q : Q4) (m : Int) {k : Nat} (h : k ≤ 4) : invT p q m k 4 = invT p q m k k := by
  rw [show 4 = k + (4 - k) by omega, invT_stop]
theorem inv_mod (a p m : Int) : (a % m + p) % m = (a + p % m) % m := by
  rw [Int.emod_add_emod, Int.add_emod_emod]
theorem inv_bound {rs : List Fac} {ls : List Int} (hls : gLens rs [] = some ls) {m : Int} (h1 : 1 ≤ m) (h2 : m ≤ 1000000000) {k : Nat} (hk : k < rs.length) :
    0 ≤ (full 0 plF (invG (cnts rs) m) rs).getD k 0 ∧ (full 0 plF (invG (cnts rs) m) rs).getD k 0 ≤ 1000000000 := by
  refine full_ind 0 plF (invG (cnts rs) m) (wf_of hls) (fun _ x => 0 ≤ x ∧ x ≤ 1000000000) (fun k r _ _ => ?_) (fun k r a b hr h0 ha0 ha1 hb0 hb1 ha hb => ?_) k hk
  · show (0 : Int) ≤ 0 ∧ (0 : Int) ≤ 1000000000
    omega
  · have q := emod_b (a := a + b + invS ((cnts rs).getD r.a.toNat Q4.nil) ((cnts rs).getD r.b.toNat Q4.nil) m 4) (m := m) (by omega)
    exact ⟨q.1, by show (a + b + _) % m ≤ _; omega⟩
def invV (rs : List Fac) (m : Int) : Value :=
  if (gOk rs).isSome = false then tup2 0 1 else if inB m 1 1000000000 = false then tup2 0 2 else tup2 (topI plF (invG (cnts rs) m) rs) 0
theorem invV_form (rs : List Fac) (m : Int) : ∃ b k, invV rs m = .tuple #[.int .i64 b, .int .i64 k] := by
  unfold invV
  split
  · exact ⟨_, _, rfl⟩
  split
  · exact ⟨_, _, rfl⟩
  · exact ⟨_, _, rfl⟩
theorem invV1 {rs : List Fac} {m : Int} (h : (gOk rs).isSome = false) : invV rs m = tup2 0 1 := by unfold invV; rw [if_pos h]
theorem invV3 {rs : List Fac} {m : Int} (h : (gOk rs).isSome = true) (h3 : inB m 1 1000000000 = false) : invV rs m = tup2 0 2 := by unfold invV; rw [if_neg (by rw [h]; decide), if_pos h3]
theorem invV4 {rs : List Fac} {m : Int} (h : (gOk rs).isSome = true) (h3 : inB m 1 1000000000 = true) : invV rs m = tup2 (topI plF (invG (cnts rs) m) rs) 0 := by
  unfold invV; rw [if_neg (by rw [h]; decide), if_neg (by rw [h3]; decide)]
theorem Rd.q4c {w : World} {B n : Nat} {A : Option Addr} {xs : List Q4} {k : Nat} (h : Rd w B A n 4 encQ4 xs) (hk : k < n) :
    ∃ b o x, A = some ⟨b, o, none⟩ ∧ b < B ∧ xs.getD k Q4.nil = x ∧ w.cell? ⟨b, o + k * 4, none⟩ = some (.int .i64 x.a) ∧ w.cell? ⟨b, o + k * 4 + 1, none⟩ = some (.int .i64 x.b) ∧
      w.cell? ⟨b, o + k * 4 + 2, none⟩ = some (.int .i64 x.c) ∧ w.cell? ⟨b, o + k * 4 + 3, none⟩ = some (.int .i64 x.d) := by
  obtain ⟨b, o, hA, hb, x, hx, hc⟩ := h.at_ hk
  exact ⟨b, o, x, hA, hb, by rw [List.getD_eq_getElem?_getD, hx]; rfl, hc 0 _ rfl, hc 1 _ rfl, hc 2 _ rfl, hc 3 _ rfl⟩
end Go.Proofs.Ytgdbpkpaacbhhaa


/-
  The word of a rule, and what a fold over rules says of it.
-/
namespace Go.Proofs.Ytgdbpkpaacbhhaa

def wdF (k : Nat) : List Nat := [k]
def wdG (a b : List Nat) (_ : Fac) : List Nat := a ++ b
/-- the words of all rules, as numbers of letters -/
def wds (rs : List Fac) : List (List Nat) := full [] wdF wdG rs
/-- the word of a grammar -/
def wdN (rs : List Fac) : List Nat := if rs = [] then [] else (wds rs).getD (rs.length - 1) []
theorem wds_pos {rs : List Fac} (hwf : WF rs) {k : Nat} (hk : k < rs.length) : (wds rs).getD k [] ≠ [] := by
  refine full_ind (rs := rs) [] wdF wdG hwf (fun _ u => u ≠ []) (fun k r _ _ => by simp [wdF]) (fun k r a b _ _ _ _ _ _ h1 _ => ?_) k hk
  intro e
  simp only [wdG, List.append_eq_nil_iff] at e
  exact h1 e.1
theorem wds_let {rs : List Fac} (hwf : WF rs) {k : Nat} (hk : k < rs.length) : ∀ x ∈ (wds rs).getD k [], x < 4 := by
  refine full_ind (rs := rs) [] wdF wdG hwf (fun _ u => ∀ x ∈ u, x < 4) (fun k r _ h => by
    intro x hx
    simp only [wdF, List.mem_singleton] at hx
    subst hx
    exact letN_lt h) (fun k r a b _ _ _ _ _ _ h1 h2 => ?_) k hk
  intro x hx
  rcases List.mem_append.1 hx with h | h
  · exact h1 x h
  · exact h2 x h
section
variable {α : Type} {d : α} {F : Nat → α} {G : α → α → Fac → α}
/-- a fold that is a function of the word -/
theorem full_hom {rs : List Fac} (hwf : WF rs) (h : List Nat → α) (hF : ∀ k, k < 4 → F k = h [k]) (hG : ∀ u v r, u ≠ [] → v ≠ [] → (∀ x ∈ u, x < 4) → (∀ x ∈ v, x < 4) → G (h u) (h v) r = h (u ++ v)) :
    ∀ k, k < rs.length → (full d F G rs).getD k d = h ((wds rs).getD k []) := by
  intro k
  induction k using Nat.strongRecOn with
  | ind k ih =>
    intro hk
    have hr : rs[k]? = some rs[k] := List.getElem?_eq_getElem hk
    rcases hwf k _ hr with ⟨h0, ha0, ha1, hb0, hb1⟩ | ⟨c, hc, hl, _, _⟩
    · have e1 := full_pair (d := d) (F := F) (G := G) hwf hr h0
      have e2 := full_pair (d := []) (F := wdF) (G := wdG) hwf hr h0
      have ia := ih rs[k].a.toNat (by omega) (by omega)
      have ib := ih rs[k].b.toNat (by omega) (by omega)
      rw [e1, ia, ib]
      unfold wds at *
      rw [e2]
      exact hG _ _ _ (wds_pos hwf (by omega)) (wds_pos hwf (by omega)) (wds_let hwf (by omega)) (wds_let hwf (by omega))
    · have hz : rs[k].l.size ≠ 0 := by rw [hl]; show (1 : Nat) ≠ 0; omega
      have e1 := full_let (d := d) (F := F) (G := G) hr hz
      have e2 := full_let (d := []) (F := wdF) (G := wdG) hr hz
      have h4 : letN rs[k].l < 4 := by
        rw [hl, letN_one]
        have := letB_num hc
        omega
      rw [e1, hF _ h4]
      unfold wds
      rw [e2]; rfl
end
theorem lens_word {rs : List Fac} {ls : List Int} (h : gLens rs [] = some ls) {k : Nat} (hk : k < rs.length) : ls.getD k 0 = ((wds rs).getD k []).length := by
  have e := gLens_fold rs [] ls h
  have := full_hom (d := (0 : Int)) (F := lenF) (G := lenG) (wf_of h) (fun u => (u.length : Int)) (fun k _ => rfl) (fun u v r _ _ _ _ => by simp [lenG]) k hk
  rw [e]; exact this
theorem last_word {rs : List Fac} {ls : List Int} (h : gLens rs [] = some ls) : lastI ls = ((wdN rs).length : Int) := by
  have hl := gLens_len rs [] ls h
  simp only [List.length_nil, Nat.zero_add] at hl
  unfold wdN
  split
  · rename_i h0; subst h0
    obtain rfl : ls = [] := List.eq_nil_of_length_eq_zero hl
    rfl
  · rename_i h0
    have : 0 < rs.length := List.length_pos_iff.2 h0
    unfold lastI
    rw [hl]
    exact lens_word h (by omega)
/-- a word as a text -/
def txB (u : List Nat) : List UInt8 := u.map fun k => UInt8.ofNat (97 + k)
def tx (u : List Nat) : ByteArray := ⟨(txB u).toArray⟩
theorem tx_size (u : List Nat) : (tx u).size = u.length := by simp [tx, txB, ByteArray.size]
theorem tx_toList (u : List Nat) : (tx u).data.toList = txB u := rfl
theorem tx_app (u v : List Nat) : tx (u ++ v) = tx u ++ tx v := by
  apply ByteArray.ext
  apply Array.ext'
  rw [ByteArray.data_append, Array.toList_append]
  simp [tx, txB]
theorem tx_let {u : List Nat} (h : ∀ x ∈ u, x < 4) : (tx u).data.toList.all letB = true := by
  rw [tx_toList, txB, List.all_map, List.all_eq_true]
  intro x hx
  have := h x hx
  simp only [Function.comp, letB]
  have e : (UInt8.ofNat (97 + x)).toNat = 97 + x := by rw [UInt8.toNat_ofNat']; omega
  simp [e]; omega
theorem wdN_let {rs : List Fac} (hwf : WF rs) : ∀ x ∈ wdN rs, x < 4 := by
  unfold wdN
  split
  · simp
  · rename_i h0
    have : 0 < rs.length := List.length_pos_iff.2 h0
    exact wds_let hwf (by omega)
end Go.Proofs.Ytgdbpkpaacbhhaa


/-
  How often each rule is met: the plain part.
-/
namespace Go.Proofs.Ytgdbpkpaacbhhaa

def sumTo (f : Nat → Int) : Nat → Int
  | 0 => 0
  | i + 1 => sumTo f i + f i
theorem sumTo_congr {f g : Nat → Int} : ∀ {i : Nat}, (∀ j, j < i → f j = g j) → sumTo f i = sumTo g i
  | 0, _ => rfl
  | i + 1, h => by
    show sumTo f i + f i = sumTo g i + g i
    rw [sumTo_congr (fun j hj => h j (by omega)), h i (by omega)]
theorem sumTo_upd {f g : Nat → Int} (a : Nat) : ∀ {i : Nat}, a < i → (∀ j, j < i → j ≠ a → f j = g j) → sumTo f i = sumTo g i + (f a - g a)
  | 0, h, _ => absurd h (by omega)
  | i + 1, h, hj => by
    show sumTo f i + f i = sumTo g i + g i + (f a - g a)
    by_cases he : a = i
    · subst he
      rw [sumTo_congr (i := a) (fun j h' => hj j (by omega) (by omega))]
      omega
    · rw [sumTo_upd a (i := i) (by omega) (fun j h1 h2 => hj j (by omega) h2), hj i (by omega) (fun e => he e.symm)]
      omega
theorem sumTo_diff {f g : Nat → Int} {i : Nat} : ∀ {n : Nat}, i ≤ n → (∀ j, i ≤ j → j < n → f j = g j) → sumTo f n - sumTo f i = sumTo g n - sumTo g i
  | 0, h, _ => by
    obtain rfl : i = 0 := by omega
    omega
  | n + 1, h, hj => by
    by_cases he : i = n + 1
    · subst he; omega
    · have := sumTo_diff (f := f) (g := g) (i := i) (n := n) (by omega) (fun j h1 h2 => hj j h1 (by omega))
      have h2 := hj n (by omega) (by omega)
      show sumTo f n + f n - sumTo f i = sumTo g n + g n - sumTo g i
      omega
theorem sumTo_add (f g : Nat → Int) : ∀ i, sumTo (fun j => f j + g j) i = sumTo f i + sumTo g i
  | 0 => rfl
  | i + 1 => by
    show sumTo (fun j => f j + g j) i + (f i + g i) = sumTo f i + f i + (sumTo g i + g i)
    rw [sumTo_add f g i]; omega
theorem sumTo_zero : ∀ {f : Nat → Int} {i : Nat}, (∀ j, j < i → f j = 0) → sumTo f i = 0
  | f, 0, _ => rfl
  | f, i + 1, h => by
    show sumTo f i + f i = 0
    rw [sumTo_zero (fun j hj => h j (by omega)), h i (by omega)]; rfl
theorem sumTo_mem {f : Nat → Int} : ∀ {i : Nat}, (∀ j, j < i → 0 ≤ f j) → 0 ≤ sumTo f i ∧ ∀ j, j < i → f j ≤ sumTo f i
  | 0, _ => ⟨by simp [sumTo], fun j hj => absurd hj (by omega)⟩
  | i + 1, h => by
    have ih := sumTo_mem (f := f) (i := i) (fun j hj => h j (by omega))
    have h1 := h i (by omega)
    refine ⟨by show 0 ≤ sumTo f i + f i; omega, fun j hj => ?_⟩
    show f j ≤ sumTo f i + f i
    by_cases he : j = i
    · subst he; omega
    · have := ih.2 j (by omega); omega

def usePair (us : List Int) (a b i : Nat) : List Int :=
  (us.set a (us.getD a 0 + us.getD i 0)).set b ((us.set a (us.getD a 0 + us.getD i 0)).getD b 0 + us.getD i 0)
def usStep (rs : List Fac) (us : List Int) (i : Nat) : List Int := if (rs.getD i default).l.size = 0 then usePair us (rs.getD i default).a.toNat (rs.getD i default).b.toNat i else us
def useGo (rs : List Fac) : Nat → List Int → List Int
  | 0, us => us
  | i + 1, us => useGo rs i (usStep rs us i)
def us0 (n : Nat) : List Int := (List.replicate n 0).set (n - 1) 1
/-- how often each rule is met -/
def usesOf (rs : List Fac) : List Int := useGo rs rs.length (us0 rs.length)

theorem getD_set (us : List Int) (a j : Nat) (v : Int) (ha : a < us.length) : (us.set a v).getD j 0 = if j = a then v else us.getD j 0 := by
  rw [List.getD_eq_getElem?_getD, List.getD_eq_getElem?_getD, List.getElem?_set]
  by_cases h : a = j
  · subst h; simp [ha]
  · rw [if_neg h, if_neg (fun e => h e.symm)]
theorem use0_at (n j : Nat) (hn : 0 < n) : (us0 n).getD j 0 = if j = n - 1 then 1 else 0 := by
  unfold us0
  rw [getD_set _ _ _ _ (by simp; omega)]
  congr 1
  rw [List.getD_eq_getElem?_getD, List.getElem?_replicate]
  split <;> rfl
/-- a letter's part, a pair's part -/
def useL (rs : List Fac) (us : List Int) (j : Nat) : Int := if (rs.getD j default).l.size = 0 then 0 else us.getD j 0
def useP (rs : List Fac) (us : List Int) (j : Nat) : Int := if (rs.getD j default).l.size = 0 then us.getD j 0 else 0
theorem ite0_mul (c : Prop) [Decidable c] (x y : Int) : (if c then x else 0) * y = if c then x * y else 0 := by split <;> simp
structure UInv (rs : List Fac) (ls : List Int) (m : Nat) (us : List Int) : Prop where
  len : us.length = rs.length
  le : m ≤ rs.length
  nn : ∀ j, 0 ≤ us.getD j 0
  bd : ∀ j, us.getD j 0 ≤ 1000000000000000
  w : sumTo (fun j => us.getD j 0 * ls.getD j 0) m + (sumTo (useL rs us) rs.length - sumTo (useL rs us) m) = lastI ls
  c : sumTo (fun j => us.getD j 0) m + (sumTo (useL rs us) rs.length - sumTo (useL rs us) m) = 1 + (sumTo (useP rs us) rs.length - sumTo (useP rs us) m)
theorem fac_getD {rs : List Fac} {i : Nat} {r : Fac} (h : rs[i]? = some r) : rs.getD i default = r := by rw [List.getD_eq_getElem?_getD, h]; rfl
theorem usePair_len (us : List Int) (a b i : Nat) : (usePair us a b i).length = us.length := by unfold usePair; simp
theorem usePair_at {us : List Int} {a b i : Nat} (ha : a < us.length) (hb : b < us.length) (j : Nat) :
    (usePair us a b i).getD j 0 = us.getD j 0 + (if j = a then us.getD i 0 else 0) + (if j = b then us.getD i 0 else 0) := by
  unfold usePair
  rw [getD_set _ _ _ _ (by simpa using hb)]
  have q := fun j => getD_set us a j (us.getD a 0 + us.getD i 0) ha
  rw [q, q]
  by_cases h1 : j = b
  · by_cases h2 : j = a
    · rw [if_pos h1, if_pos h1, if_pos h2, ← h1, if_pos h2, h2]
    · rw [if_pos h1, if_pos h1, if_neg h2, ← h1, if_neg h2]; omega
  · by_cases h2 : j = a
    · rw [if_neg h1, if_neg h1, if_pos h2, if_pos h2, h2]; omega
    · rw [if_neg h1, if_neg h1, if_neg h2, if_neg h2]; omega
theorem uinv_start {rs : List Fac} {ls : List Int} (hll : ls.length = rs.length) (h0 : 0 < rs.length) : UInv rs ls rs.length (us0 rs.length) := by
  have h := fun j => use0_at rs.length j h0
  have z : ∀ (f : Nat → Int), sumTo (fun j => if j = rs.length - 1 then f j else 0) rs.length = f (rs.length - 1) := fun f => by
    rw [sumTo_upd (g := fun _ => 0) (rs.length - 1) (by omega) (fun j _ hne => by simp [hne]), sumTo_zero (fun _ _ => rfl)]
    simp
  refine ⟨by simp [us0], Nat.le_refl _, fun j => ?_, fun j => ?_, ?_, ?_⟩
  · rw [h]; split <;> omega
  · rw [h]; split <;> omega
  · have e : sumTo (fun j => (us0 rs.length).getD j 0 * ls.getD j 0) rs.length = lastI ls := by
      rw [sumTo_congr (g := fun j => if j = rs.length - 1 then ls.getD j 0 else 0) (fun j _ => by rw [h]; split <;> simp), z]
      unfold lastI; rw [hll]
    omega
  · have e : sumTo (fun j => (us0 rs.length).getD j 0) rs.length = 1 := by
      rw [sumTo_congr (g := fun j => if j = rs.length - 1 then (fun _ => (1 : Int)) j else 0) (fun j _ => by rw [h]), z]
    omega
theorem lens_last_le {ls : List Int} {rs : List Fac} (hls : gLens rs [] = some ls) (h0 : 0 < rs.length) (hll : ls.length = rs.length) : lastI ls ≤ 1000000000000000 := by
  unfold lastI
  have := lens_bound hls (i := ls.length - 1) (by omega)
  omega
theorem UInv.step {rs : List Fac} {ls : List Int} {i : Nat} {us : List Int} (hls : gLens rs [] = some ls) (hll : ls.length = rs.length) (h : UInv rs ls (i + 1) us) : UInv rs ls i (usStep rs us i) := by
  have hi : i < rs.length := h.le
  obtain ⟨r, hr⟩ : ∃ r, rs[i]? = some r := ⟨_, List.getElem?_eq_getElem hi⟩
  have hd := fac_getD hr
  have hlast := lens_last_le hls (by omega) hll
  have lnn : ∀ j, 0 ≤ useL rs us j := fun j => by unfold useL; split <;> first | omega | exact h.nn j
  unfold usStep
  rw [hd]
  have w := h.w
  have c := h.c
  have w1 : sumTo (fun j => us.getD j 0 * ls.getD j 0) (i + 1) = sumTo (fun j => us.getD j 0 * ls.getD j 0) i + us.getD i 0 * ls.getD i 0 := rfl
  have c1 : sumTo (fun j => us.getD j 0) (i + 1) = sumTo (fun j => us.getD j 0) i + us.getD i 0 := rfl
  have l1 : sumTo (useL rs us) (i + 1) = sumTo (useL rs us) i + useL rs us i := rfl
  have p1 : sumTo (useP rs us) (i + 1) = sumTo (useP rs us) i + useP rs us i := rfl
  by_cases h0 : r.l.size = 0
  · rw [if_pos h0]
    have lp := lens_pair hls hr h0
    rcases wf_of hls i r hr with ⟨_, ha0, ha1, hb0, hb1⟩ | ⟨cc, _, hxl, _⟩
    case inr => rw [hxl] at h0; exact absurd h0 (show ¬ (1 : Nat) = 0 by omega)
    have ha : r.a.toNat < us.length := by have := h.len; omega
    have hb : r.b.toNat < us.length := by have := h.len; omega
    have at_ := usePair_at (i := i) ha hb
    have eL : useL rs us i = 0 := by unfold useL; rw [hd, if_pos h0]
    have eP : useP rs us i = us.getD i 0 := by unfold useP; rw [hd, if_pos h0]
    -- what is left below i
    have wa : ∀ (f : Nat → Int), sumTo (fun j => (us.getD j 0 + (if j = r.a.toNat then us.getD i 0 else 0) + (if j = r.b.toNat then us.getD i 0 else 0)) * f j) i = sumTo (fun j => us.getD j 0 * f j) i + us.getD i 0 * f r.a.toNat + us.getD i 0 * f r.b.toNat := by
      intro f
      rw [sumTo_congr (g := fun j => (us.getD j 0 * f j + (if j = r.a.toNat then us.getD i 0 * f j else 0)) + (if j = r.b.toNat then us.getD i 0 * f j else 0)) (fun j _ => by
        rw [Int.add_mul, Int.add_mul, ite0_mul, ite0_mul])]
      rw [sumTo_add, sumTo_add]
      have z : ∀ a, a < i → sumTo (fun j => if j = a then us.getD i 0 * f j else 0) i = us.getD i 0 * f a := fun a ha => by
        rw [sumTo_upd (g := fun _ => 0) a ha (fun j _ hne => by simp [hne]), sumTo_zero (fun _ _ => rfl)]
        simp
      rw [z _ (by omega), z _ (by omega)]
    have wf := wa (fun j => ls.getD j 0)
    have wc := wa (fun _ => 1)
    simp only [Int.mul_one] at wc
    have ee : ∀ j, i ≤ j → (usePair us r.a.toNat r.b.toNat i).getD j 0 = us.getD j 0 := fun j hj => by rw [at_, if_neg (by omega), if_neg (by omega)]; simp
    have dl : sumTo (useL rs (usePair us r.a.toNat r.b.toNat i)) rs.length - sumTo (useL rs (usePair us r.a.toNat r.b.toNat i)) i = sumTo (useL rs us) rs.length - sumTo (useL rs us) i :=
      sumTo_diff (by omega) (fun j h1 _ => by unfold useL; rw [ee j h1])
    have dp : sumTo (useP rs (usePair us r.a.toNat r.b.toNat i)) rs.length - sumTo (useP rs (usePair us r.a.toNat r.b.toNat i)) i = sumTo (useP rs us) rs.length - sumTo (useP rs us) i :=
      sumTo_diff (by omega) (fun j h1 _ => by unfold useP; rw [ee j h1])
    have nn' : ∀ j, 0 ≤ (usePair us r.a.toNat r.b.toNat i).getD j 0 := fun j => by
      rw [at_]
      have := h.nn j; have := h.nn i
      split <;> split <;> omega
    have W : sumTo (fun j => (usePair us r.a.toNat r.b.toNat i).getD j 0 * ls.getD j 0) i + (sumTo (useL rs (usePair us r.a.toNat r.b.toNat i)) rs.length - sumTo (useL rs (usePair us r.a.toNat r.b.toNat i)) i) = lastI ls := by
      rw [dl, sumTo_congr (fun j _ => by rw [at_]), wf]
      rw [lp, Int.mul_add] at w1
      omega
    refine ⟨by rw [usePair_len]; exact h.len, by omega, nn', fun j => ?_, W, ?_⟩
    · by_cases hj : j < i
      · have hm := (sumTo_mem (f := fun j => (usePair us r.a.toNat r.b.toNat i).getD j 0 * ls.getD j 0) (i := i) (fun j hj => Int.mul_nonneg (nn' j) (by have := lens_bound hls (i := j) (by omega); omega))).2 j hj
        have hd2 := sumTo_mem (f := useL rs us) (i := rs.length) (fun j _ => lnn j)
        have hd3 : 0 ≤ sumTo (useL rs us) rs.length - sumTo (useL rs us) i := by
          have e : sumTo (useL rs us) rs.length - sumTo (useL rs us) i = sumTo (fun j => if j < i then 0 else useL rs us j) rs.length - sumTo (fun j => if j < i then 0 else useL rs us j) i :=
            sumTo_diff (by omega) (fun j h1 h2 => by rw [if_neg (by omega)])
          rw [e, sumTo_zero (i := i) (fun j hj => by rw [if_pos hj])]
          have := (sumTo_mem (f := fun j => if j < i then 0 else useL rs us j) (i := rs.length) (fun j _ => by split <;> first | omega | exact lnn j)).1
          omega
        have hb := lens_bound hls (i := j) (by omega)
        have hn := nn' j
        have hle : (usePair us r.a.toNat r.b.toNat i).getD j 0 ≤ (usePair us r.a.toNat r.b.toNat i).getD j 0 * ls.getD j 0 := by
          have := Int.mul_le_mul_of_nonneg_left hb.1 hn
          omega
        rw [dl] at W
        omega
      · rw [ee j (by omega)]
        exact h.bd j
    · rw [dl, dp, sumTo_congr (g := fun j => us.getD j 0 + (if j = r.a.toNat then us.getD i 0 else 0) + (if j = r.b.toNat then us.getD i 0 else 0)) (fun j _ => at_ j), wc]
      omega
  · rw [if_neg h0]
    have lt := lens_let hls hr h0
    have eL : useL rs us i = us.getD i 0 := by unfold useL; rw [hd, if_neg h0]
    have eP : useP rs us i = 0 := by unfold useP; rw [hd, if_neg h0]
    rw [lt, Int.mul_one] at w1
    exact ⟨h.len, by omega, h.nn, h.bd, by omega, by omega⟩
theorem useGo_inv {rs : List Fac} {ls : List Int} (hls : gLens rs [] = some ls) (hll : ls.length = rs.length) : ∀ (m : Nat) (us : List Int), UInv rs ls m us → UInv rs ls 0 (useGo rs m us)
  | 0, _, h => h
  | m + 1, us, h => useGo_inv hls hll m _ (h.step hls hll)
theorem uses_inv {rs : List Fac} {ls : List Int} (hls : gLens rs [] = some ls) (hll : ls.length = rs.length) (h0 : 0 < rs.length) : UInv rs ls 0 (usesOf rs) := useGo_inv hls hll _ _ (uinv_start hll h0)
/-- all pairs together are met once less than there are letters -/
theorem uses_pairs {rs : List Fac} {ls : List Int} (hls : gLens rs [] = some ls) (hll : ls.length = rs.length) (h0 : 0 < rs.length) : sumTo (useP rs (usesOf rs)) rs.length = lastI ls - 1 := by
  have h := uses_inv hls hll h0
  have w := h.w
  have c := h.c
  simp only [sumTo] at w c
  omega
end Go.Proofs.Ytgdbpkpaacbhhaa


/-
  How often each rule is met: in the program and in the reference.
-/
namespace Go.Proofs.Ytgdbpkpaacbhhaa
open Go.RowKit

def arrI (us : List Int) : Array Value := (us.map fun z => Value.int .i64 z).toArray
theorem arrI_size (us : List Int) : (arrI us).size = us.length := by simp [arrI]
theorem arrI_at {us : List Int} {j : Nat} (h : j < us.length) : (arrI us)[j]? = some (.int .i64 (us.getD j 0)) := by
  simp [arrI, List.getElem?_eq_getElem h, List.getD_eq_getElem?_getD]
theorem arrI_set (us : List Int) (a : Nat) (v : Int) : (arrI us).setIfInBounds a (.int .i64 v) = arrI (us.set a v) := by
  simp [arrI, List.map_set]
theorem made_arrI (n : Nat) : madeCells #[Value.int .i64 0] n = arrI (List.replicate n 0) := by
  apply Array.ext_getElem?
  intro i
  by_cases h : i < n
  · rw [arrI_at (by simpa using h)]
    have := made_at (n := n) (j := i) h
    rw [Nat.mul_one] at this
    rw [show (Value.int IntKind.i64 0).cells = #[Value.int .i64 0] from rfl] at this
    rw [this, List.getD_eq_getElem?_getD, List.getElem?_replicate, if_pos h]; rfl
  · rw [Array.getElem?_eq_none (by rw [size_madeCells]; omega), Array.getElem?_eq_none (by rw [arrI_size]; simp; omega)]
theorem arrI_own {w : World} {base g : Nat} {us : List Int} (hB : Blk w g 2 (arrI us)) (hg : base ≤ g) (hm : us.length ≤ maxLen) : w.ownsRow base 2 1 (.slice (some ⟨g, 0, none⟩) us.length us.length) us.length (us.flatMap intE) :=
  own_of_blk hB hg (by rw [arrI_size, Nat.mul_one]) rfl hm (fun _ _ => rfl) (fun k x hx j hj => by
    obtain rfl : j = 0 := by omega
    have hk : k < us.length := (List.getElem?_eq_some_iff.1 hx).1
    rw [Nat.mul_one, Nat.add_zero, arrI_at hk, List.getD_eq_getElem?_getD, hx]; rfl)
theorem useStep_pair {rs : List Fac} {i : Nat} {r : Fac} (h : rs[i]? = some r) (h0 : r.l.size = 0) (us : List Int) : usStep rs us i = usePair us r.a.toNat r.b.toNat i := by
  unfold usStep; rw [fac_getD h, if_pos h0]
theorem useStep_let {rs : List Fac} {i : Nat} {r : Fac} (h : rs[i]? = some r) (h0 : r.l.size ≠ 0) (us : List Int) : usStep rs us i = us := by
  unfold usStep; rw [fac_getD h, if_neg h0]
end Go.Proofs.Ytgdbpkpaacbhhaa


/-
  impl.folded at [2]int: what it makes of a grammar, by the contracts of the two functions that it is handed.
-/
namespace Go.Proofs.Ytgdbpkpaacbhhaa
open Go.RowKit

structure Ed where
  f : Int
  l : Int
  deriving Inhabited, DecidableEq
def Ed.nil : Ed := ⟨0, 0⟩
def encEd (y : Ed) : List Value := [.int .i64 y.f, .int .i64 y.l]
theorem lenEd (y : Ed) : (encEd y).length = 2 := rfl

end Go.Proofs.Ytgdbpkpaacbhhaa


/-
  How often letters come behind letters: the table, and what makes it.
-/
namespace Go.Proofs.Ytgdbpkpaacbhhaa
open Go.RowKit

/-- one fold told by another one -/
theorem full_map {α β : Type} (d : α) (F : Nat → α) (G : α → α → Fac → α) (d' : β) (F' : Nat → β) (G' : β → β → Fac → β) (h : α → β) {rs : List Fac} (hwf : WF rs) (hF : ∀ l, h (F l) = F' l) (hG : ∀ a b r, h (G a b r) = G' (h a) (h b) r) :
    ∀ k, k < rs.length → h ((full d F G rs).getD k d) = (full d' F' G' rs).getD k d' := by
  intro k
  induction k using Nat.strongRecOn with
  | ind k ih =>
    intro hk
    have gx : rs[k]? = some (rs[k]'(by omega)) := List.getElem?_eq_getElem _
    rcases hwf k _ gx with ⟨h0, ha0, ha1, hb0, hb1⟩ | ⟨c, hc, hl, _⟩
    · rw [full_pair d F G hwf gx h0, full_pair d' F' G' hwf gx h0, hG, ih _ (by omega) (by omega), ih _ (by omega) (by omega)]
    · have h0 : (rs[k]'(by omega)).l.size ≠ 0 := by rw [hl]; show (1 : Nat) ≠ 0; omega
      rw [full_let d F G gx h0, full_let d' F' G' gx h0, hF]
def edF (l : Nat) : Int := (l : Int)
def edGf (a _ : Int) (_ : Fac) : Int := a
def edGl (_ b : Int) (_ : Fac) : Int := b
/-- the number of the first letter, of the last letter -/
abbrev edf (rs : List Fac) : List Int := full 0 edF edGf rs
abbrev edl (rs : List Fac) : List Int := full 0 edF edGl rs
theorem ed_b {G : Int → Int → Fac → Int} (hG : ∀ a b r, G a b r = a ∨ G a b r = b) {rs : List Fac} (hwf : WF rs) {k : Nat} (hk : k < rs.length) : 0 ≤ (full 0 edF G rs).getD k 0 ∧ (full 0 edF G rs).getD k 0 < 4 := by
  refine full_ind 0 edF G hwf (fun _ x => 0 ≤ x ∧ x < 4) (fun k r hr h => ?_) (fun k r a b hr h0 h1 h2 h3 h4 ha hb => ?_) k hk
  · have := letN_lt h
    show 0 ≤ ((letN r.l : Nat) : Int) ∧ ((letN r.l : Nat) : Int) < 4
    omega
  · rcases hG a b r with h | h
    · show 0 ≤ G a b r ∧ G a b r < 4
      rw [h]; exact ha
    · show 0 ≤ G a b r ∧ G a b r < 4
      rw [h]; exact hb
theorem edf_b {rs : List Fac} (hwf : WF rs) {k : Nat} (hk : k < rs.length) : 0 ≤ (edf rs).getD k 0 ∧ (edf rs).getD k 0 < 4 := ed_b (fun _ _ _ => .inl rfl) hwf hk
theorem edl_b {rs : List Fac} (hwf : WF rs) {k : Nat} (hk : k < rs.length) : 0 ≤ (edl rs).getD k 0 ∧ (edl rs).getD k 0 < 4 := ed_b (fun _ _ _ => .inr rfl) hwf hk

def Q4.plus (q : Q4) (l : Nat) (v : Int) : Q4 := match l with
  | 0 => ⟨q.a + v, q.b, q.c, q.d⟩
  | 1 => ⟨q.a, q.b + v, q.c, q.d⟩
  | 2 => ⟨q.a, q.b, q.c + v, q.d⟩
  | _ => ⟨q.a, q.b, q.c, q.d + v⟩
def Q4.sum (q : Q4) : Int := q.a + q.b + q.c + q.d
theorem Q4.plus_sum (q : Q4) (l : Nat) (v : Int) : (q.plus l v).sum = q.sum + v := by
  match l with
  | 0 => simp [Q4.plus, Q4.sum]; omega
  | 1 => simp [Q4.plus, Q4.sum]; omega
  | 2 => simp [Q4.plus, Q4.sum]; omega
  | _ + 3 => simp [Q4.plus, Q4.sum]; omega
theorem Q4.plus_set (q : Q4) {l : Nat} (h : l < 4) (v : Int) : ((encQ4 q).toArray).setIfInBounds l (.int .i64 (q.at_ l + v)) = (encQ4 (q.plus l v)).toArray := by
  match l, h with
  | 0, _ => rfl
  | 1, _ => rfl
  | 2, _ => rfl
  | 3, _ => rfl
def Q4.bd (q : Q4) (m : Int) : Prop := ∀ j, 0 ≤ q.at_ j ∧ q.at_ j ≤ m
theorem Q4.plus_bd {q : Q4} {m v : Int} (h : q.bd m) (l : Nat) (h0 : 0 ≤ v) : (q.plus l v).bd (m + v) := by
  intro j
  have h1 : 0 ≤ q.a ∧ q.a ≤ m := h 0
  have h2 : 0 ≤ q.b ∧ q.b ≤ m := h 1
  have h3 : 0 ≤ q.c ∧ q.c ≤ m := h 2
  have h4 : 0 ≤ q.d ∧ q.d ≤ m := h 3
  match l with
  | 0 => match j with
    | 0 => show 0 ≤ q.a + v ∧ q.a + v ≤ m + v; omega
    | 1 => show 0 ≤ q.b ∧ q.b ≤ m + v; omega
    | 2 => show 0 ≤ q.c ∧ q.c ≤ m + v; omega
    | _ + 3 => show 0 ≤ q.d ∧ q.d ≤ m + v; omega
  | 1 => match j with
    | 0 => show 0 ≤ q.a ∧ q.a ≤ m + v; omega
    | 1 => show 0 ≤ q.b + v ∧ q.b + v ≤ m + v; omega
    | 2 => show 0 ≤ q.c ∧ q.c ≤ m + v; omega
    | _ + 3 => show 0 ≤ q.d ∧ q.d ≤ m + v; omega
  | 2 => match j with
    | 0 => show 0 ≤ q.a ∧ q.a ≤ m + v; omega
    | 1 => show 0 ≤ q.b ∧ q.b ≤ m + v; omega
    | 2 => show 0 ≤ q.c + v ∧ q.c + v ≤ m + v; omega
    | _ + 3 => show 0 ≤ q.d ∧ q.d ≤ m + v; omega
  | _ + 3 => match j with
    | 0 => show 0 ≤ q.a ∧ q.a ≤ m + v; omega
    | 1 => show 0 ≤ q.b ∧ q.b ≤ m + v; omega
    | 2 => show 0 ≤ q.c ∧ q.c ≤ m + v; omega
    | _ + 3 => show 0 ≤ q.d + v ∧ q.d + v ≤ m + v; omega
def addT (qs : List Q4) (k l : Nat) (v : Int) : List Q4 := qs.set k ((qs.getD k Q4.nil).plus l v)
def pcT (rs : List Fac) : Nat → List Q4
  | 0 => [Q4.nil, Q4.nil, Q4.nil, Q4.nil]
  | i + 1 => if (rs.getD i default).l.size = 0 then addT (pcT rs i) ((edl rs).getD (rs.getD i default).a.toNat 0).toNat ((edf rs).getD (rs.getD i default).b.toNat 0).toNat ((usesOf rs).getD i 0) else pcT rs i
/-- how often each letter comes right behind each one -/
abbrev pcAll (rs : List Fac) : List Q4 := pcT rs rs.length
theorem pcT_len (rs : List Fac) : ∀ i, (pcT rs i).length = 4
  | 0 => rfl
  | i + 1 => by
    unfold pcT
    split
    · unfold addT; rw [List.length_set]; exact pcT_len rs i
    · exact pcT_len rs i
theorem pcT_pair {rs : List Fac} {i : Nat} {r : Fac} (h : rs[i]? = some r) (h0 : r.l.size = 0) : pcT rs (i + 1) = addT (pcT rs i) ((edl rs).getD r.a.toNat 0).toNat ((edf rs).getD r.b.toNat 0).toNat ((usesOf rs).getD i 0) := by
  show (if (rs.getD i default).l.size = 0 then _ else _) = _
  rw [fac_getD h, if_pos h0]
theorem pcT_let {rs : List Fac} {i : Nat} {r : Fac} (h : rs[i]? = some r) (h0 : r.l.size ≠ 0) : pcT rs (i + 1) = pcT rs i := by
  show (if (rs.getD i default).l.size = 0 then _ else _) = _
  rw [fac_getD h, if_neg h0]
theorem qgetD_set (qs : List Q4) (k j : Nat) (q : Q4) (hk : k < qs.length) : (qs.set k q).getD j Q4.nil = if j = k then q else qs.getD j Q4.nil := by
  rw [List.getD_eq_getElem?_getD, List.getD_eq_getElem?_getD, List.getElem?_set]
  by_cases h : k = j
  · subst h; simp [hk]
  · rw [if_neg h, if_neg (fun e => h e.symm)]
theorem pcT_bd {rs : List Fac} {ls : List Int} (hls : gLens rs [] = some ls) (hll : ls.length = rs.length) : ∀ i, i ≤ rs.length → ∀ k, ((pcT rs i).getD k Q4.nil).bd (1000000000000000 * i)
  | 0, _, k => by
    have : (pcT rs 0).getD k Q4.nil = Q4.nil := by
      match k with
      | 0 => rfl
      | 1 => rfl
      | 2 => rfl
      | 3 => rfl
      | _ + 4 => rfl
    rw [this]
    intro j
    match j with
    | 0 => exact ⟨Int.le_refl _, by simp [Q4.at_, Q4.nil]⟩
    | 1 => exact ⟨Int.le_refl _, by simp [Q4.at_, Q4.nil]⟩
    | 2 => exact ⟨Int.le_refl _, by simp [Q4.at_, Q4.nil]⟩
    | _ + 3 => exact ⟨Int.le_refl _, by simp [Q4.at_, Q4.nil]⟩
  | i + 1, hi, k => by
    have ih := pcT_bd hls hll i (by omega)
    have U := uses_inv hls hll (by omega)
    have u1 := U.nn i
    have u2 := U.bd i
    have up : ∀ {q : Q4} {m m' : Int}, q.bd m → m ≤ m' → q.bd m' := fun h h2 j => by have := h j; omega
    unfold pcT
    split
    · unfold addT
      by_cases hk : ((edl rs).getD (rs.getD i default).a.toNat 0).toNat < 4
      · rw [qgetD_set _ _ _ _ (by rw [pcT_len]; exact hk)]
        split
        · exact up (Q4.plus_bd (ih _) _ u1) (by omega)
        · exact up (ih k) (by omega)
      · rw [List.set_eq_of_length_le (by rw [pcT_len]; omega)]
        exact up (ih k) (by omega)
    · exact up (ih k) (by omega)
def totT (qs : List Q4) : Int := ((qs.getD 0 Q4.nil).sum + (qs.getD 1 Q4.nil).sum) + ((qs.getD 2 Q4.nil).sum + (qs.getD 3 Q4.nil).sum)
theorem totT_add (qs : List Q4) (hq : qs.length = 4) {k : Nat} (hk : k < 4) (l : Nat) (v : Int) : totT (addT qs k l v) = totT qs + v := by
  unfold totT addT
  rw [qgetD_set _ _ _ _ (by omega), qgetD_set _ _ _ _ (by omega), qgetD_set _ _ _ _ (by omega), qgetD_set _ _ _ _ (by omega)]
  match k, hk with
  | 0, _ => simp [Q4.plus_sum]; omega
  | 1, _ => simp [Q4.plus_sum]; omega
  | 2, _ => simp [Q4.plus_sum]; omega
  | 3, _ => simp [Q4.plus_sum]; omega
theorem pcT_tot {rs : List Fac} (hwf : WF rs) : ∀ i, i ≤ rs.length → totT (pcT rs i) = sumTo (useP rs (usesOf rs)) i
  | 0, _ => rfl
  | i + 1, hi => by
    have ih := pcT_tot hwf i (by omega)
    have gx : rs[i]? = some (rs[i]'(by omega)) := List.getElem?_eq_getElem _
    show _ = sumTo (useP rs (usesOf rs)) i + useP rs (usesOf rs) i
    unfold useP
    rw [fac_getD gx]
    rcases hwf i _ gx with ⟨h0, ha0, ha1, hb0, hb1⟩ | ⟨c, hc, hl, _⟩
    · rw [pcT_pair gx h0, if_pos h0, totT_add _ (pcT_len _ _) (by have := edl_b hwf (k := (rs[i]'(by omega)).a.toNat) (by omega); omega), ih]; rfl
    · have h0 : (rs[i]'(by omega)).l.size ≠ 0 := by rw [hl]; show (1 : Nat) ≠ 0; omega
      rw [pcT_let gx h0, if_neg h0, ih]; unfold useP; omega
/-- all pairs of letters: one less than letters -/
theorem pc_total {rs : List Fac} {ls : List Int} (hls : gLens rs [] = some ls) (hll : ls.length = rs.length) (h0 : 0 < rs.length) : totT (pcAll rs) = lastI ls - 1 := by
  rw [pcT_tot (wf_of hls) _ (Nat.le_refl _), uses_pairs hls hll h0]

/-- the rows of a table, which lie apart -/
def PTab (w : World) (base : Nat) (gs : List Nat) (qs : List Q4) : Prop := RowsOk w base gs qs ∧ ∀ (i j g : Nat), gs[i]? = some g → gs[j]? = some g → i = j
theorem PTab.below {w w' : World} {base : Nat} {gs : List Nat} {qs : List Q4} (h : PTab w base gs qs) (hb : Below w.heap.size w w') : PTab w' base gs qs :=
  ⟨⟨h.1.1, fun i g hg => ⟨(h.1.2 i g hg).1, (h.1.2 i g hg).2.next hb⟩⟩, h.2⟩
theorem PTab.at_ {w : World} {base : Nat} {gs : List Nat} {qs : List Q4} (h : PTab w base gs qs) {k g : Nat} (hg : gs[k]? = some g) {l : Nat} (hl : l < 4) : w.cell? ⟨g, l, none⟩ = some (.int .i64 ((qs.getD k Q4.nil).at_ l)) := by
  rw [(h.1.2 k g hg).2.cell l]
  simpa using encQ4_at (qs.getD k Q4.nil) hl
theorem PTab.set_ {w : World} {base : Nat} {gs : List Nat} {qs : List Q4} (h : PTab w base gs qs) {k g : Nat} (hg : gs[k]? = some g) {l : Nat} (hl : l < 4) (v : Int) :
    PTab (w.setCell ⟨g, l, none⟩ (.int .i64 ((qs.getD k Q4.nil).at_ l + v))) base gs (addT qs k l v) := by
  have hk : k < qs.length := by rw [← h.1.1]; exact (List.getElem?_eq_some_iff.1 hg).1
  refine ⟨⟨by unfold addT; rw [List.length_set]; exact h.1.1, fun i p hp => ⟨(h.1.2 i p hp).1, ?_⟩⟩, h.2⟩
  unfold addT
  rw [qgetD_set _ _ _ _ hk]
  by_cases hi : i = k
  · subst hi
    obtain rfl : g = p := Option.some.inj (hg.symm.trans hp)
    rw [if_pos rfl, ← Q4.plus_set _ hl]
    exact (h.1.2 i g hg).2.set_ l _
  · rw [if_neg hi]
    exact (h.1.2 i p hp).2.far (fun e => hi (by
      have e : p = g := e
      subst e
      exact h.2 i k p hp hg)) _
/-- what the makers of the table leave -/
def RetPT (w0 : World) (qs : List Q4) (e : Ending) (w' : World) : Prop :=
  ∃ A c gs, e = .returned (.slice A qs.length c) ∧ w'.ownsRow w0.heap.size 46 1 (.slice A qs.length c) qs.length (gs.flatMap encG) ∧ PTab w' w0.heap.size gs qs ∧ Below w0.heap.size w0 w'
/-- one row more -/
theorem PTab.push {w w9 : World} {k c' g : Nat} {A' : Option Addr} {gs : List Nat} {qs : List Q4} {q : Q4} {base : Nat} (h : PTab w base gs qs) (hk : qs.length = k) (hO : w.ownsRow base 46 1 (.slice A' k c') k (gs.flatMap encG))
    (BL : Blk w g 2 (encQ4 q).toArray) (hg : base ≤ g) (hn : ∀ (i p : Nat), gs[i]? = some p → p < g) (o : Obj) (hg9 : (w.alloc o).grownBy w9 (Value.slice A' k c').ownBlock) : PTab w9 base (gs ++ [g]) (qs ++ [q]) := by
  refine ⟨rows_push (hO.alloc o) h.1 hk BL hg (fun _ _ _ hB => hB.alloc o) hg9, fun i j p hi hj => ?_⟩
  have lt : ∀ i, (gs ++ [g])[i]? = some p → i < gs.length ∧ gs[i]? = some p ∨ i = gs.length ∧ p = g := fun i hi => by
    by_cases h1 : i < gs.length
    · exact .inl ⟨h1, by rwa [List.getElem?_append_left h1] at hi⟩
    · have h2 := (List.getElem?_eq_some_iff.1 hi).1
      simp at h2
      have h3 : i = gs.length := by omega
      subst h3
      rw [List.getElem?_append_right (by omega)] at hi
      exact .inr ⟨rfl, by simpa using hi.symm⟩
  rcases lt i hi with ⟨a1, a2⟩ | ⟨a1, a2⟩ <;> rcases lt j hj with ⟨b1, b2⟩ | ⟨b1, b2⟩
  · exact h.2 i j p a2 b2
  · have := hn i p a2; omega
  · have := hn j p b2; omega
  · omega
end Go.Proofs.Ytgdbpkpaacbhhaa


/-
  How often letters come behind letters: in the program.
-/
namespace Go.Proofs.Ytgdbpkpaacbhhaa
open Go.RowKit

def edgF (l : Nat) : Ed := ⟨(l : Int), (l : Int)⟩
def edgG (a b : Ed) (_ : Fac) : Ed := ⟨a.f, b.l⟩
abbrev edgAll (rs : List Fac) : List Ed := full Ed.nil edgF edgG rs
theorem edg_f {rs : List Fac} (hwf : WF rs) {k : Nat} (hk : k < rs.length) : ((edgAll rs).getD k Ed.nil).f = (edf rs).getD k 0 :=
  full_map Ed.nil edgF edgG 0 edF edGf Ed.f hwf (fun _ => rfl) (fun _ _ _ => rfl) k hk
theorem edg_l {rs : List Fac} (hwf : WF rs) {k : Nat} (hk : k < rs.length) : ((edgAll rs).getD k Ed.nil).l = (edl rs).getD k 0 :=
  full_map Ed.nil edgF edgG 0 edF edGl Ed.l hwf (fun _ => rfl) (fun _ _ _ => rfl) k hk
/-- rows that are empty yet -/
def zT (k : Nat) : List Q4 := List.replicate k Q4.nil
theorem zT_succ (k : Nat) : zT (k + 1) = zT k ++ [Q4.nil] := by unfold zT; rw [List.replicate_succ']
theorem PTab.lt {w : World} {base : Nat} {gs : List Nat} {qs : List Q4} (h : PTab w base gs qs) : ∀ (i p : Nat), gs[i]? = some p → p < w.heap.size := fun i p hi => (h.1.2 i p hi).2.lt
theorem PTab.next {w w' : World} {base : Nat} {gs : List Nat} {qs : List Q4} (h : PTab w base gs qs) (hb : Below w.heap.size w w') : PTab w' base gs qs := h.below hb
theorem PTab.drew {w : World} {base : Nat} {gs : List Nat} {qs : List Q4} (h : PTab w base gs qs) : PTab w.drew base gs qs := h
/-- other rows stay as they are when a row is written -/
theorem own_row_set {w : World} {base e size n g l : Nat} {v : Value} {xs : List Value} {cs : Array Value} (h : w.ownsRow base e size v n xs) (hg : Blk w g 2 cs) (hne : e ≠ 2) (u : Value) : (w.setCell ⟨g, l, none⟩ u).ownsRow base e size v n xs :=
  Go.ownsRow_setCell_other h (fun he => own_blk_ne h hg hne he.symm) u
theorem own_ne_ty {w : World} {b1 b2 e1 e2 s1 s2 n1 n2 : Nat} {v1 v2 : Value} {xs1 xs2 : List Value} (h1 : w.ownsRow b1 e1 s1 v1 n1 xs1) (h2 : w.ownsRow b2 e2 s2 v2 n2 xs2) (hne : e1 ≠ e2) : v1.ownBlock = none ∨ v1.ownBlock ≠ v2.ownBlock := by
  rcases h1.2 with ⟨rfl, _⟩ | ⟨g1, c1, u1, rfl, _, hh1, _⟩
  · left; rfl
  · right
    rcases h2.2 with ⟨rfl, _⟩ | ⟨g2, c2, u2, rfl, _, hh2, _⟩
    · simp [Value.ownBlock]
    · intro he
      have hg : g1 = g2 := by simpa [Value.ownBlock] using he
      subst hg
      rw [hh1] at hh2
      injection hh2 with hh2
      injection hh2 with _ ht
      exact hne ht
/-- the table under way, and the list of uses -/
structure PInv (w : World) (bu B : Nat) (Au : Option Addr) (n cu : Nat) (us : List Int) (A' : Option Addr) (k c' : Nat) (gs : List Nat) (qs : List Q4) (w' : World) : Prop where
  hb : Below w.heap.size w w'
  lo : w.heap.size ≤ B
  sz : B ≤ w'.heap.size
  ou : w'.ownsRow bu 2 1 (.slice Au n cu) n (us.flatMap intE)
  ub : ∀ p, (Value.slice Au n cu).ownBlock = some p → p < B
  o : w'.ownsRow w.heap.size 46 1 (.slice A' k c') k (gs.flatMap encG)
  q : PTab w' B gs qs
  len : qs.length = k
theorem PInv.next {w w1 w2 : World} {bu B : Nat} {Au : Option Addr} {n cu : Nat} {us : List Int} {A' : Option Addr} {k c' : Nat} {gs : List Nat} {qs : List Q4} (h : PInv w bu B Au n cu us A' k c' gs qs w1) (hb : Below w1.heap.size w1 w2) : PInv w bu B Au n cu us A' k c' gs qs w2 :=
  ⟨h.hb.trans (hb.mono h.hb.size), h.lo, Nat.le_trans h.sz hb.size, own_next h.ou hb, h.ub, own_next h.o hb, h.q.next hb, h.len⟩
theorem PInv.set_ {w w1 : World} {bu B : Nat} {Au : Option Addr} {n cu : Nat} {us : List Int} {A' : Option Addr} {k c' : Nat} {gs : List Nat} {qs : List Q4} (h : PInv w bu B Au n cu us A' k c' gs qs w1) {i g l : Nat} (hg : gs[i]? = some g) (hl : l < 4) (v : Int) :
    PInv w bu B Au n cu us A' k c' gs (addT qs i l v) (w1.setCell ⟨g, l, none⟩ (.int .i64 ((qs.getD i Q4.nil).at_ l + v))).drew := by
  have r := h.q.1.2 i g hg
  refine ⟨(h.hb.setCell (Nat.le_trans h.lo r.1) _).drew, h.lo, by simpa using h.sz, (Go.ownsRow_setCell_other h.ou (fun e => by have := h.ub _ e; have := r.1; simp at *; omega) _).drew, h.ub, (own_row_set h.o r.2 (by decide) _).drew, (h.q.set_ hg hl v).drew, by unfold addT; rw [List.length_set]; exact h.len⟩
theorem PInv.push {w wr w9 : World} {bu B : Nat} {Au : Option Addr} {n cu : Nat} {us : List Int} {A' A9 : Option Addr} {k c' c9 : Nat} {gs : List Nat} {qs : List Q4} {o : Obj} (h : PInv w bu B Au n cu us A' k c' gs qs wr)
    (own9 : w9.ownsRow w.heap.size 46 1 (.slice A9 (k + 1) c9) (k + 1) ((gs ++ [wr.heap.size]).flatMap encG))
    (hg9 : ((wr.alloc (.cells (encQ4 Q4.nil).toArray 2)).alloc o).grownBy w9 (Value.slice A' k c').ownBlock) : PInv w bu B Au n cu us A9 (k + 1) c9 (gs ++ [wr.heap.size]) (qs ++ [Q4.nil]) w9 := by
  have b0 := h.hb.size
  have hs : ((wr.alloc (.cells (encQ4 Q4.nil).toArray 2)).alloc o).heap.size = wr.heap.size + 2 := by simp
  refine ⟨((h.hb.alloc b0 _).alloc (by simp; omega) _).grown hg9 (by rw [hs]; omega) (own_ge h.o), h.lo, ?_, ?_, h.ub, own9, ?_, by rw [List.length_append]; simp [h.len]⟩
  · have := hg9.size; have := h.sz; omega
  · exact ((h.ou.alloc _).alloc _).kept hg9 (own_ne_ty h.ou h.o (by decide))
  · have P := PTab.push (w := wr.alloc (.cells (encQ4 Q4.nil).toArray 2)) (base := w.heap.size) (gs := gs) (qs := qs) ⟨⟨h.q.1.1, fun i g hg => ⟨Nat.le_trans h.lo (h.q.1.2 i g hg).1, (h.q.1.2 i g hg).2.alloc _⟩⟩, h.q.2⟩ h.len (h.o.alloc _) (Blk.new wr _ _) b0 h.q.lt o hg9
    refine ⟨⟨P.1.1, fun i g hg => ⟨?_, (P.1.2 i g hg).2⟩⟩, P.2⟩
    by_cases h1 : i < gs.length
    · rw [List.getElem?_append_left h1] at hg
      exact (h.q.1.2 i g hg).1
    · rw [List.getElem?_append_right (by omega)] at hg
      have h2 := (List.getElem?_eq_some_iff.1 hg).1
      rw [show i - gs.length = 0 by simp at h2; omega] at hg
      have : wr.heap.size = g := by simpa using hg
      rw [← this]; exact h.sz
theorem PInv.blk {w wr w9 : World} {bu B : Nat} {Au : Option Addr} {n cu : Nat} {us : List Int} {A' : Option Addr} {k c' : Nat} {gs : List Nat} {qs : List Q4} {o1 o2 : Obj} (h : PInv w bu B Au n cu us A' k c' gs qs wr) {g : Nat} {t : TypeId} {cs : Array Value} (hB : Blk wr g t cs) (ht : 46 ≠ t)
    (hg9 : ((wr.alloc o1).alloc o2).grownBy w9 (Value.slice A' k c').ownBlock) : Blk w9 g t cs :=
  ((hB.alloc _).alloc _).grown hg9 (own_blk_ne h.o hB ht)
theorem PInv.ret {w w1 : World} {bu B : Nat} {Au : Option Addr} {n cu : Nat} {us : List Int} {A' : Option Addr} {c' : Nat} {gs : List Nat} {rs : List Fac} (h : PInv w bu B Au n cu us A' 4 c' gs (pcT rs rs.length) w1) : RetPT w (pcAll rs) (.returned (.slice A' 4 c')) w1 := by
  refine ⟨A', c', gs, ret_slice (pcT_len _ _).symm, ?_, ⟨⟨h.q.1.1, fun i g hg => ⟨Nat.le_trans h.lo (h.q.1.2 i g hg).1, (h.q.1.2 i g hg).2⟩⟩, h.q.2⟩, h.hb⟩
  rw [pcT_len]; exact h.o
end Go.Proofs.Ytgdbpkpaacbhhaa


/-
  How often letters come behind letters: in the reference.
-/
namespace Go.Proofs.Ytgdbpkpaacbhhaa
open Go.RowKit

/-- two lists of numbers that grow -/
structure Two (w : World) (A1 : Option Addr) (k1 c1 : Nat) (xs1 : List Int) (A2 : Option Addr) (k2 c2 : Nat) (xs2 : List Int) (w' : World) : Prop where
  hb : Below w.heap.size w w'
  o1 : w'.ownsRow w.heap.size 2 1 (.slice A1 k1 c1) k1 (xs1.flatMap intE)
  o2 : w'.ownsRow w.heap.size 2 1 (.slice A2 k2 c2) k2 (xs2.flatMap intE)
  ne : ∀ p, (Value.slice A1 k1 c1).ownBlock = some p → (Value.slice A2 k2 c2).ownBlock ≠ some p
theorem Two.next {w w1 w2 : World} {A1 A2 : Option Addr} {k1 c1 k2 c2 : Nat} {xs1 xs2 : List Int} (h : Two w A1 k1 c1 xs1 A2 k2 c2 xs2 w1) (hb : Below w1.heap.size w1 w2) : Two w A1 k1 c1 xs1 A2 k2 c2 xs2 w2 :=
  ⟨h.hb.trans (hb.mono h.hb.size), own_next h.o1 hb, own_next h.o2 hb, h.ne⟩
theorem Two.swap {w w1 : World} {A1 A2 : Option Addr} {k1 c1 k2 c2 : Nat} {xs1 xs2 : List Int} (h : Two w A1 k1 c1 xs1 A2 k2 c2 xs2 w1) : Two w A2 k2 c2 xs2 A1 k1 c1 xs1 w1 :=
  ⟨h.hb, h.o2, h.o1, fun p h2 h1 => h.ne p h1 h2⟩
theorem Two.push {w wr w9 : World} {A1 A2 A9 : Option Addr} {k1 c1 k2 c2 c9 : Nat} {xs1 xs2 : List Int} {o : Obj} {v : Int} (h : Two w A1 k1 c1 xs1 A2 k2 c2 xs2 wr)
    (own9 : w9.ownsRow w.heap.size 2 1 (.slice A9 (k1 + 1) c9) (k1 + 1) ((xs1 ++ [v]).flatMap intE))
    (hg9 : (wr.alloc o).grownBy w9 (Value.slice A1 k1 c1).ownBlock)
    (hat9 : (Value.slice A9 (k1 + 1) c9).ownBlock = (Value.slice A1 k1 c1).ownBlock ∨ (Value.slice A9 (k1 + 1) c9).ownBlock = some (wr.alloc o).heap.size) : Two w A9 (k1 + 1) c9 (xs1 ++ [v]) A2 k2 c2 xs2 w9 := by
  have b0 := h.hb.size
  refine ⟨(h.hb.alloc b0 _).grown hg9 (by simp; omega) (own_ge h.o1), own9, (h.o2.alloc _).kept hg9 ?_, fun p hp => ?_⟩
  · cases hv : (Value.slice A2 k2 c2).ownBlock with
    | none => exact .inl rfl
    | some q => exact .inr fun e => h.ne q e.symm hv
  · rcases hat9 with e | e
    · exact h.ne p (e.symm.trans hp)
    · intro e2
      rw [hp] at e
      have := (h.o2.lt p e2).2
      injection e with e
      simp at e
      omega
/-- what 'l05Edges' leaves -/
def RetTwo (w : World) (xs ys : List Int) (e : Ending) (w' : World) : Prop :=
  ∃ A1 c1 A2 c2, e = .returned (.tuple #[.slice A1 xs.length c1, .slice A2 ys.length c2]) ∧ w'.ownsRow w.heap.size 2 1 (.slice A1 xs.length c1) xs.length (xs.flatMap intE) ∧ w'.ownsRow w.heap.size 2 1 (.slice A2 ys.length c2) ys.length (ys.flatMap intE) ∧ Below w.heap.size w w'
/-- the table under way -/
structure PTin (w : World) (A' : Option Addr) (k c' : Nat) (gs : List Nat) (qs : List Q4) (w' : World) : Prop where
  hb : Below w.heap.size w w'
  o : w'.ownsRow w.heap.size 46 1 (.slice A' k c') k (gs.flatMap encG)
  q : PTab w' w.heap.size gs qs
  len : qs.length = k
theorem PTin.next {w w1 w2 : World} {A' : Option Addr} {k c' : Nat} {gs : List Nat} {qs : List Q4} (h : PTin w A' k c' gs qs w1) (hb : Below w1.heap.size w1 w2) : PTin w A' k c' gs qs w2 :=
  ⟨h.hb.trans (hb.mono h.hb.size), own_next h.o hb, h.q.next hb, h.len⟩
theorem PTin.set_ {w w1 : World} {A' : Option Addr} {k c' : Nat} {gs : List Nat} {qs : List Q4} (h : PTin w A' k c' gs qs w1) {i g l : Nat} (hg : gs[i]? = some g) (hl : l < 4) (v : Int) :
    PTin w A' k c' gs (addT qs i l v) (w1.setCell ⟨g, l, none⟩ (.int .i64 ((qs.getD i Q4.nil).at_ l + v))) := by
  have r := h.q.1.2 i g hg
  exact ⟨h.hb.setCell r.1 _, own_row_set h.o r.2 (by decide) _, h.q.set_ hg hl v, by unfold addT; rw [List.length_set]; exact h.len⟩
theorem PTin.push {w wr w9 : World} {A' A9 : Option Addr} {k c' c9 : Nat} {gs : List Nat} {qs : List Q4} {o : Obj} (h : PTin w A' k c' gs qs wr)
    (own9 : w9.ownsRow w.heap.size 46 1 (.slice A9 (k + 1) c9) (k + 1) ((gs ++ [wr.heap.size]).flatMap encG))
    (hg9 : ((wr.alloc (.cells (encQ4 Q4.nil).toArray 2)).alloc o).grownBy w9 (Value.slice A' k c').ownBlock) : PTin w A9 (k + 1) c9 (gs ++ [wr.heap.size]) (qs ++ [Q4.nil]) w9 := by
  have b0 := h.hb.size
  have hs : ((wr.alloc (.cells (encQ4 Q4.nil).toArray 2)).alloc o).heap.size = wr.heap.size + 2 := by simp
  refine ⟨((h.hb.alloc b0 _).alloc (by simp; omega) _).grown hg9 (by rw [hs]; omega) (own_ge h.o), own9, ?_, by rw [List.length_append]; simp [h.len]⟩
  exact PTab.push (w := wr.alloc (.cells (encQ4 Q4.nil).toArray 2)) (base := w.heap.size) (gs := gs) (qs := qs) ⟨⟨h.q.1.1, fun i g hg => ⟨(h.q.1.2 i g hg).1, (h.q.1.2 i g hg).2.alloc _⟩⟩, h.q.2⟩ h.len (h.o.alloc _) (Blk.new wr _ _) b0 h.q.lt o hg9
theorem PTin.ret {w w1 : World} {A' : Option Addr} {c' : Nat} {gs : List Nat} {rs : List Fac} (h : PTin w A' 4 c' gs (pcT rs rs.length) w1) : RetPT w (pcAll rs) (.returned (.slice A' 4 c')) w1 := by
  refine ⟨A', c', gs, ret_slice (pcT_len _ _).symm, ?_, h.q, h.hb⟩
  rw [pcT_len]; exact h.o
theorem own_cell {w : World} {base n c : Nat} {A : Option Addr} {xs : List Int} (h : w.ownsRow base 2 1 (.slice A n c) n (xs.flatMap intE)) (hl : xs.length = n) {i : Nat} (hi : i < n) :
    ∃ g, A = some ⟨g, 0, none⟩ ∧ base ≤ g ∧ g < w.heap.size ∧ w.cell? ⟨g, i, none⟩ = some (.int .i64 (xs.getD i 0)) := by
  obtain ⟨g, cp, hv, h1, h2⟩ := h.form (by omega)
  obtain rfl : A = some ⟨g, 0, none⟩ := by injection hv
  refine ⟨g, rfl, h1, h2, ?_⟩
  have := own_at (sz := 1) (enc := intE) (fun _ _ => rfl) h hl 0 i hi 0 (by omega)
  rw [Nat.mul_one, Nat.add_zero] at this; exact this
end Go.Proofs.Ytgdbpkpaacbhhaa
