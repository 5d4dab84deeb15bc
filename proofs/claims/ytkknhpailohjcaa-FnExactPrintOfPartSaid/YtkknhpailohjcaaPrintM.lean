/-
  Prints: the plain part.
-/
import Derived.Test.YtkknhpailohjcaaFoldL
import Derived.Test.YtkknhpailohjcaaFoldT
import Derived.Test.YtkknhpailohjcaaFoldK
import Derived.Test.YtkknhpailohjcaaGramL
import Derived.Test.YtkknhpailohjcaaPieces
namespace Go.Proofs.Ytkknhpailohjcaa

theorem emodR (a b m : Int) : a * (b % m) % m = a * b % m := by rw [Int.mul_emod, Int.emod_emod, ← Int.mul_emod]
theorem emodL (a b m : Int) : (a % m) * b % m = a * b % m := by rw [Int.mul_emod, Int.emod_emod, ← Int.mul_emod]
theorem emod_in {a m : Int} (h : 1 ≤ m) : 0 ≤ a % m ∧ a % m < m := ⟨Int.emod_nonneg _ (by omega), Int.emod_lt_of_pos _ (by omega)⟩
theorem emod_id {a m : Int} (h0 : 0 ≤ a) (h : a < m) : a % m = a := Int.emod_eq_of_lt h0 h
/-- the rest of a power -/
def pw (b m : Int) : Nat → Int
  | 0 => 1 % m
  | n + 1 => pw b m n * b % m
theorem pw_in {b m : Int} (h : 1 ≤ m) : ∀ n, 0 ≤ pw b m n ∧ pw b m n < m
  | 0 => emod_in h
  | _ + 1 => emod_in h
theorem pw_one {b m : Int} (h0 : 0 ≤ b) (h : b < m) : pw b m 1 = b := by
  show 1 % m * b % m = b
  rw [emodL, Int.one_mul, emod_id h0 h]
theorem pw_add (b m : Int) (h : 1 ≤ m) (x : Nat) : ∀ y, pw b m (x + y) = pw b m x * pw b m y % m
  | 0 => by
    show pw b m x = pw b m x * (1 % m) % m
    rw [emodR, Int.mul_one, emod_id (pw_in h x).1 (pw_in h x).2]
  | y + 1 => by
    show pw b m (x + y) * b % m = pw b m x * (pw b m y * b % m) % m
    rw [pw_add b m h x y, emodL, emodR, Int.mul_assoc]
theorem pw_sq (b m : Int) : ∀ k, pw (b * b % m) m k = pw b m (2 * k)
  | 0 => rfl
  | k + 1 => by
    show pw (b * b % m) m k * (b * b % m) % m = _
    rw [pw_sq b m k, show 2 * (k + 1) = 2 * k + 1 + 1 by omega]
    show _ = pw b m (2 * k) * b % m * b % m
    rw [emodL, emodR, Int.mul_assoc]
/-- what is left of a power by squaring -/
theorem pw_even (o b m : Int) (k : Nat) : o * pw (b * b % m) m k % m = o * pw b m (2 * k) % m := by rw [pw_sq]
theorem pw_odd (o b m : Int) (k : Nat) : (o * b % m) * pw (b * b % m) m k % m = o * pw b m (2 * k + 1) % m := by
  rw [pw_sq]
  show _ = o * (pw b m (2 * k) * b % m) % m
  rw [emodL, emodR]
  congr 1
  rw [Int.mul_assoc, Int.mul_comm b]

def mkF (b m : Int) (l : Nat) : Mk := ⟨((l : Int) + 1) % m, b⟩
def mkG (m : Int) (x y : Mk) (_ : Fac) : Mk := ⟨(x.p + x.w * y.p) % m, x.w * y.w % m⟩
abbrev mkAll (b m : Int) (rs : List Fac) : List Mk := full Mk.nil (mkF b m) (mkG m) rs
def prF (m : Int) (l : Nat) : Int := ((l : Int) + 1) % m
def prG (b m : Int) (ls : List Int) (x y : Int) (r : Fac) : Int := (x + pw b m (ls.getD r.a.toNat 0).toNat * y) % m
abbrev prAll (b m : Int) (ls : List Int) (rs : List Fac) : List Int := full 0 (prF m) (prG b m ls) rs
theorem mk_pr {rs : List Fac} {ls : List Int} (hls : gLens rs [] = some ls) {b m : Int} (hm : 1 ≤ m) (h0 : 0 ≤ b) (h : b < m) :
    ∀ k, k < rs.length → ((mkAll b m rs).getD k Mk.nil).p = (prAll b m ls rs).getD k 0 ∧ ((mkAll b m rs).getD k Mk.nil).w = pw b m (ls.getD k 0).toNat := by
  intro k
  induction k using Nat.strongRecOn with
  | ind k ih =>
    intro hk
    have gx : rs[k]? = some (rs[k]'(by omega)) := List.getElem?_eq_getElem _
    have hwf := wf_of hls
    rcases hwf k _ gx with ⟨h0', ha0, ha1, hb0, hb1⟩ | ⟨c, hc, hl, _⟩
    · obtain ⟨p1, w1⟩ := ih (rs[k]'(by omega)).a.toNat (by omega) (by omega)
      obtain ⟨p2, w2⟩ := ih (rs[k]'(by omega)).b.toNat (by omega) (by omega)
      have la := lens_bound hls (i := (rs[k]'(by omega)).a.toNat) (by omega)
      have lb := lens_bound hls (i := (rs[k]'(by omega)).b.toNat) (by omega)
      rw [full_pair Mk.nil _ _ hwf gx h0', full_pair 0 _ _ hwf gx h0', lens_pair hls gx h0']
      rw [show ((ls.getD (rs[k]'(by omega)).a.toNat 0) + (ls.getD (rs[k]'(by omega)).b.toNat 0)).toNat = (ls.getD (rs[k]'(by omega)).a.toNat 0).toNat + (ls.getD (rs[k]'(by omega)).b.toNat 0).toNat by omega]
      refine ⟨?_, ?_⟩
      · show (((mkAll b m rs).getD _ Mk.nil).p + ((mkAll b m rs).getD _ Mk.nil).w * ((mkAll b m rs).getD _ Mk.nil).p) % m = ((prAll b m ls rs).getD _ 0 + _ * (prAll b m ls rs).getD _ 0) % m
        rw [p1, p2, w1]
      · show ((mkAll b m rs).getD _ Mk.nil).w * ((mkAll b m rs).getD _ Mk.nil).w % m = _
        rw [w1, w2, pw_add b m hm]
    · have h0' : (rs[k]'(by omega)).l.size ≠ 0 := by rw [hl]; show (1 : Nat) ≠ 0; omega
      rw [full_let Mk.nil _ _ gx h0', full_let 0 _ _ gx h0', lens_let hls gx h0']
      exact ⟨rfl, (pw_one h0 h).symm⟩
theorem pr_in {rs : List Fac} {ls : List Int} (hls : gLens rs [] = some ls) {b m : Int} (hm : 1 ≤ m) {k : Nat} (hk : k < rs.length) : 0 ≤ (prAll b m ls rs).getD k 0 ∧ (prAll b m ls rs).getD k 0 < m :=
  full_ind 0 (prF m) (prG b m ls) (wf_of hls) (fun _ x => 0 ≤ x ∧ x < m) (fun _ _ _ _ => emod_in hm) (fun _ _ _ _ _ _ _ _ _ _ _ _ => emod_in hm) k hk
theorem mk_in {rs : List Fac} {ls : List Int} (hls : gLens rs [] = some ls) {b m : Int} (hm : 1 ≤ m) (h0 : 0 ≤ b) (h : b < m) {k : Nat} (hk : k < rs.length) :
    (0 ≤ ((mkAll b m rs).getD k Mk.nil).p ∧ ((mkAll b m rs).getD k Mk.nil).p < m) ∧ 0 ≤ ((mkAll b m rs).getD k Mk.nil).w ∧ ((mkAll b m rs).getD k Mk.nil).w < m := by
  obtain ⟨e1, e2⟩ := mk_pr hls hm h0 h k hk
  rw [e1, e2]
  exact ⟨pr_in hls hm hk, pw_in hm _⟩
/-- the print of a part, as the program puts it together -/
def partMk (b m : Int) (rs : List Fac) (l : List Nat) : Mk := l.foldl (fun s k => mkG m s ((mkAll b m rs).getD k Mk.nil) default) ⟨0, 1 % m⟩
/-- the whole word is one piece -/
theorem pcs_whole {rs : List Fac} {ls : List Int} (hls : gLens rs [] = some ls) (hll : ls.length = rs.length) (h0 : 0 < rs.length) : pcsT ls rs 0 (lastI ls) = [rs.length - 1] := by
  have lb := lens_bound hls (i := rs.length - 1) (by omega)
  have e : lastI ls = ls.getD (rs.length - 1) 0 := by unfold lastI; rw [hll]
  unfold pcsT
  rw [if_pos (by rw [e]; omega), pcs_in (by omega) (by omega) (by rw [e]; omega) (Int.le_refl _) (by rw [e]; omega)]
/-- the print of the word -/
def printN (rs : List Fac) (b m : Int) : Int := (partMk b m rs (match gLens rs [] with | some ls => pcsT ls rs 0 (lastI ls) | none => [])).p
theorem printN_eq {rs : List Fac} {ls : List Int} (hls : gLens rs [] = some ls) (hll : ls.length = rs.length) {b m : Int} (hm : 1 ≤ m) (hb0 : 0 ≤ b) (hb : b < m) (h0 : 0 < rs.length) : printN rs b m = (prAll b m ls rs).getD (rs.length - 1) 0 := by
  unfold printN
  rw [hls]
  show (partMk b m rs (pcsT ls rs 0 (lastI ls))).p = _
  rw [pcs_whole hls hll h0]
  show (0 + 1 % m * ((mkAll b m rs).getD (rs.length - 1) Mk.nil).p) % m = _
  have h := pr_in (b := b) hls hm (k := rs.length - 1) (by omega)
  rw [(mk_pr hls hm hb0 hb _ (by omega)).1, Int.zero_add, emodL, Int.one_mul, emod_id h.1 h.2]
theorem printN_nil {ls : List Int} (hls : gLens [] [] = some ls) (b m : Int) : printN [] b m = 0 := by
  unfold printN
  rw [hls]
  rfl
end Go.Proofs.Ytkknhpailohjcaa
