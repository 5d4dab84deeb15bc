/-
  The longest runs of the letters: the plain part.
-/
import Derived.Test.YtkknhpailohjcaaFoldR
import Derived.Test.YtkknhpailohjcaaFoldL
import Derived.Test.YtkknhpailohjcaaFoldT
import Derived.Test.YtkknhpailohjcaaGramL
namespace Go.Proofs.Ytkknhpailohjcaa

/-- the runs of one letter -/
structure Rc where
  f : Int
  l : Int
  m : Int
  n : Int
  deriving Inhabited, DecidableEq
def R4.at_ (y : R4) : Nat → Rc
  | 0 => ⟨y.f0, y.l0, y.m0, y.n0⟩
  | 1 => ⟨y.f1, y.l1, y.m1, y.n1⟩
  | 2 => ⟨y.f2, y.l2, y.m2, y.n2⟩
  | _ => ⟨y.f3, y.l3, y.m3, y.n3⟩
def R4.mk4 (a b c d : Rc) : R4 := ⟨a.f, a.l, a.m, a.n, b.f, b.l, b.m, b.n, c.f, c.l, c.m, c.n, d.f, d.l, d.m, d.n⟩
theorem R4.mk4_at (t : Nat → Rc) {k : Nat} (h : k < 4) : (R4.mk4 (t 0) (t 1) (t 2) (t 3)).at_ k = t k := by
  match k, h with
  | 0, _ => rfl
  | 1, _ => rfl
  | 2, _ => rfl
  | 3, _ => rfl
def lrU (l k : Nat) : Rc := if k = l then ⟨1, 1, 1, 1⟩ else ⟨0, 0, 0, 1⟩
def lrF (l : Nat) : R4 := .mk4 (lrU l 0) (lrU l 1) (lrU l 2) (lrU l 3)
def lrJ (x y : Rc) : Rc := ⟨if x.f = x.n then x.f + y.f else x.f, if y.l = y.n then y.l + x.l else y.l, max (max x.m y.m) (x.l + y.f), x.n + y.n⟩
def lrG (x y : R4) (_ : Fac) : R4 := .mk4 (lrJ (x.at_ 0) (y.at_ 0)) (lrJ (x.at_ 1) (y.at_ 1)) (lrJ (x.at_ 2) (y.at_ 2)) (lrJ (x.at_ 3) (y.at_ 3))
theorem lrF_at (l : Nat) {k : Nat} (h : k < 4) : (lrF l).at_ k = lrU l k := R4.mk4_at (lrU l) h
theorem lrG_at (x y : R4) (r : Fac) {k : Nat} (h : k < 4) : (lrG x y r).at_ k = lrJ (x.at_ k) (y.at_ k) := R4.mk4_at (fun k => lrJ (x.at_ k) (y.at_ k)) h
abbrev lrAll (rs : List Fac) : List R4 := full R4.nil lrF lrG rs
/-- within bounds: no run is longer than the word -/
def RcB (n : Int) (x : Rc) : Prop := 0 ≤ x.f ∧ x.f ≤ n ∧ 0 ≤ x.l ∧ x.l ≤ n ∧ 0 ≤ x.m ∧ x.m ≤ n ∧ x.n = n
theorem lrJ_b {a b : Int} {x y : Rc} (ha : 1 ≤ a) (hb : 1 ≤ b) (hx : RcB a x) (hy : RcB b y) : RcB (a + b) (lrJ x y) := by
  obtain ⟨x0, x1, x2, x3, x4, x5, x6⟩ := hx
  obtain ⟨y0, y1, y2, y3, y4, y5, y6⟩ := hy
  unfold lrJ RcB
  simp only
  refine ⟨?_, ?_, ?_, ?_, ?_, ?_, ?_⟩
  · split <;> omega
  · split <;> omega
  · split <;> omega
  · split <;> omega
  · omega
  · omega
  · omega
theorem lr_bound {rs : List Fac} {ls : List Int} (hls : gLens rs [] = some ls) {k : Nat} (hk : k < rs.length) : ∀ l, l < 4 → RcB (ls.getD k 0) (((lrAll rs).getD k R4.nil).at_ l) := by
  refine full_ind R4.nil lrF lrG (wf_of hls) (fun k x => ∀ l, l < 4 → RcB (ls.getD k 0) (x.at_ l)) (fun k r hr h => ?_) (fun k r a b hr h0' h1 h2 h3 h4 ha hb => ?_) k hk
  · intro l hl
    have hn : r.l.size ≠ 0 := by
      obtain ⟨c, _, e⟩ := letT_one h
      rw [e]; show (1 : Nat) ≠ 0; omega
    rw [lens_let hls hr hn, lrF_at _ hl]
    unfold lrU RcB
    split <;> simp
  · intro l hl
    have hk' : k < rs.length := (List.getElem?_eq_some_iff.1 hr).1
    have ba := lens_bound hls (i := r.a.toNat) (by omega)
    have bb := lens_bound hls (i := r.b.toNat) (by omega)
    rw [lens_pair hls hr h0', lrG_at _ _ _ hl]
    exact lrJ_b ba.1 bb.1 (ha l hl) (hb l hl)
/-- the runs of one letter, as the reference has them -/
structure Sr where
  f : Int
  b : Int
  m : Int
  deriving Inhabited, DecidableEq
def Sr.nil : Sr := ⟨0, 0, 0⟩
def srF (l : Nat) (c : Nat) : Sr := if c = l then ⟨1, 1, 1⟩ else ⟨0, 0, 0⟩
def srG (ls : List Int) (x y : Sr) (r : Fac) : Sr := ⟨if x.f = ls.getD r.a.toNat 0 then x.f + y.f else x.f, if y.b = ls.getD r.b.toNat 0 then y.b + x.b else y.b, max (max x.m y.m) (x.b + y.f)⟩
abbrev srAll (ls : List Int) (l : Nat) (rs : List Fac) : List Sr := full Sr.nil (srF l) (srG ls) rs
theorem lr_sr {rs : List Fac} {ls : List Int} (hls : gLens rs [] = some ls) {l : Nat} (hl : l < 4) :
    ∀ k, k < rs.length → ((lrAll rs).getD k R4.nil).at_ l = ⟨((srAll ls l rs).getD k Sr.nil).f, ((srAll ls l rs).getD k Sr.nil).b, ((srAll ls l rs).getD k Sr.nil).m, ls.getD k 0⟩ := by
  intro k
  induction k using Nat.strongRecOn with
  | ind k ih =>
    intro hk
    have gx : rs[k]? = some (rs[k]'(by omega)) := List.getElem?_eq_getElem _
    have hwf := wf_of hls
    rcases hwf k _ gx with ⟨h0', ha0, ha1, hb0, hb1⟩ | ⟨c, hc, hxl, _⟩
    · have e1 := ih (rs[k]'(by omega)).a.toNat (by omega) (by omega)
      have e2 := ih (rs[k]'(by omega)).b.toNat (by omega) (by omega)
      rw [full_pair R4.nil _ _ hwf gx h0', full_pair Sr.nil _ _ hwf gx h0', lens_pair hls gx h0', lrG_at _ _ _ hl, e1, e2]
      rfl
    · have h0' : (rs[k]'(by omega)).l.size ≠ 0 := by rw [hxl]; show (1 : Nat) ≠ 0; omega
      rw [full_let R4.nil _ _ gx h0', full_let Sr.nil _ _ gx h0', lens_let hls gx h0', lrF_at _ hl]
      unfold lrU srF
      by_cases h : l = letN (rs[k]'(by omega)).l
      · rw [if_pos h, if_pos h.symm]
      · rw [if_neg h, if_neg (fun e => h e.symm)]
/-- what is told -/
def lrTop (rs : List Fac) : List Int := if rs.length = 0 then [0, 0, 0, 0] else (List.range 4).map fun l => (((lrAll rs).getD (rs.length - 1) R4.nil).at_ l).m
end Go.Proofs.Ytkknhpailohjcaa
