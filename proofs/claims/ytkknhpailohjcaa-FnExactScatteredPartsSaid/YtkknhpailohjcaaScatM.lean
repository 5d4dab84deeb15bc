/-
  Scattered words, counted: tables of numbers as values; the plain part.
-/
import Derived.Test.YtkknhpailohjcaaFoldW
import Derived.Test.YtkknhpailohjcaaFoldL
import Derived.Test.YtkknhpailohjcaaFoldT
import Derived.Test.YtkknhpailohjcaaGramV
import Derived.Test.YtkknhpailohjcaaGramL
import Derived.Test.YtkknhpailohjcaaMake
import Derived.Test.YtkknhpailohjcaaLetg
import Derived.Test.YtkknhpailohjcaaTabs
namespace Go.Proofs.Ytkknhpailohjcaa
open Go.RowKit

abbrev Tb := Nat → Nat → Int
def rowL (N : Nat) (f : Nat → Int) : List Int := (List.range N).map f
def tabL (N : Nat) (Y : Tb) : List (List Int) := (List.range N).map fun a => rowL N (Y a)
theorem rowL_len (N : Nat) (f : Nat → Int) : (rowL N f).length = N := by simp [rowL]
theorem rowL_at {N : Nat} (f : Nat → Int) {i : Nat} (h : i < N) : (rowL N f).getD i 0 = f i := by
  unfold rowL; rw [List.getD_eq_getElem?_getD, List.getElem?_map, List.getElem?_range h]; rfl
theorem tabL_at {N : Nat} (Y : Tb) {i : Nat} (h : i < N) : (tabL N Y).getD i [] = rowL N (Y i) := by
  unfold tabL; rw [List.getD_eq_getElem?_getD, List.getElem?_map, List.getElem?_range h]; rfl
theorem rowL_ext {N : Nat} {f g : Nat → Int} (h : ∀ b, b < N → f b = g b) : rowL N f = rowL N g := List.map_congr_left fun b hb => h b (List.mem_range.1 hb)
theorem tabL_ext {N : Nat} {X Y : Tb} (h : ∀ a b, a < N → b < N → X a b = Y a b) : tabL N X = tabL N Y :=
  List.map_congr_left fun a ha => rowL_ext fun b hb => h a b (List.mem_range.1 ha) hb
/-- a block whose numbers are known is a row of the call's own -/
theorem own_of_row {w : World} {base g N : Nat} {cs : Array Value} {f : Nat → Int} (hB : Blk w g 2 cs) (hs : cs.size = N) (hc : ∀ j, j < N → cs[j]? = some (.int .i64 (f j))) (hb : base ≤ g) (hN : N ≤ maxLen) :
    w.ownsRow base 2 1 (.slice (some ⟨g, 0, none⟩) N N) N ((rowL N f).flatMap intE) := by
  have he : (rowL N f).flatMap intE = cs.toList := by
    refine List.ext_getElem? fun i => ?_
    by_cases hi : i < N
    · have h1 : (rowL N f)[i]? = some (f i) := by unfold rowL; rw [List.getElem?_map, List.getElem?_range hi]; rfl
      have h2 := flat_at (enc := intE) (sz := 1) (rowL N f) (fun _ _ => rfl) i _ h1 0 (by omega)
      rw [Nat.mul_one, Nat.add_zero] at h2
      have h3 : cs.toList[i]? = some (.int .i64 (f i)) := by simpa using hc i hi
      rw [h2, h3]; rfl
    · have l1 : ((rowL N f).flatMap intE).length = N := by
        have : ∀ (l : List Int), (l.flatMap intE).length = l.length := fun l => by
          induction l with
          | nil => rfl
          | cons x r ih => simp [intE, ih]
        rw [this, rowL_len]
      rw [List.getElem?_eq_none (by omega), List.getElem?_eq_none (by simp [hs]; omega)]
  refine ⟨by rw [he]; simp [hs], .inr ⟨g, N, cs, rfl, hb, hB, Nat.le_refl _, hN, by omega, ?_⟩⟩
  rw [he, List.take_of_length_le (by simp [hs])]
theorem TabJ.lt {w : World} {base n c m : Nat} {A : Option Addr} {gs : List Nat} {xss : List (List Int)} (h : TabJ w base A n c m gs xss) {i g : Nat} (hg : gs[i]? = some g) : base ≤ g ∧ g < w.heap.size := (h.r i g hg).lt g rfl
/-- one more row -/
theorem TabJ.push {w0 w w' : World} {base n c c' m : Nat} {A A' : Option Addr} {gs : List Nat} {xss : List (List Int)} {g : Nat} (h0 : TabJ w0 base A n c m gs xss) (h : TabJ w base A n c m gs xss) (hg0 : w0.heap.size ≤ g)
    (hr : w.ownsRow base 2 1 (.slice (some ⟨g, 0, none⟩) m m) m ((xss.getD n []).flatMap intE)) (hm : (xss.getD n []).length = m) (o : Obj)
    (own : w'.ownsRow base 26 1 (.slice A' (n + 1) c') (n + 1) ((gs ++ [g]).flatMap (encH m))) (hg : (w.alloc o).grownBy w' (Value.slice A n c).ownBlock) : TabJ w' base A' (n + 1) c' m (gs ++ [g]) xss := by
  have hlg := h.lg
  have cases : ∀ i p, (gs ++ [g])[i]? = some p → (i < n ∧ gs[i]? = some p) ∨ (i = n ∧ p = g) := fun i p hp => by
    by_cases hi : i < n
    · rw [List.getElem?_append_left (by omega)] at hp; exact .inl ⟨hi, hp⟩
    · have hi2 : i = n := by
        have := (List.getElem?_eq_some_iff.1 hp).1
        simp at this; omega
      subst hi2
      rw [List.getElem?_append_right (by omega)] at hp
      exact .inr ⟨rfl, by simpa [hlg] using hp.symm⟩
  refine ⟨own, by simp [hlg], fun i p hp => ?_, fun i hi => ?_, fun i j p hi hj => ?_⟩
  · rcases cases i p hp with ⟨_, h1⟩ | ⟨rfl, rfl⟩
    · exact ((h.r i p h1).alloc o).kept hg (own_ne ((h.r i p h1).alloc o) (h.o.alloc o) (by decide))
    · exact (hr.alloc o).kept hg (own_ne (hr.alloc o) (h.o.alloc o) (by decide))
  · by_cases hi2 : i < n
    · exact h.m i hi2
    · obtain rfl : i = n := by omega
      exact hm
  · rcases cases i p hi with ⟨a1, h1⟩ | ⟨a1, h1⟩
    · rcases cases j p hj with ⟨_, h2⟩ | ⟨_, h2⟩
      · exact h.d i j p h1 h2
      · have := (h0.lt h1).2; omega
    · rcases cases j p hj with ⟨_, h2⟩ | ⟨a2, _⟩
      · have := (h0.lt h2).2; omega
      · omega
/-- one number turned -/
theorem TabJ.set {w : World} {base n c m : Nat} {A : Option Addr} {gs : List Nat} {Y : Tb} (h : TabJ w base A n c m gs (tabL m Y)) {i j g : Nat} (hn : n ≤ m) (hi : i < n) (_hj : j < m) (hg : gs[i]? = some g) (v : Int) {Y' : Tb} (hv : Y' i j = v) (hY : ∀ a b, ¬ (a = i ∧ b = j) → Y' a b = Y a b) :
    TabJ (w.setCell ⟨g, j, none⟩ (.int .i64 v)) base A n c m gs (tabL m Y') := by
  have hr := h.r i g hg
  have ht := own_setI hr j (.int .i64 v)
  have hgb : w.grownBy (w.setCell ⟨g, j, none⟩ (.int .i64 v)) (some g) := gb_set w g j _
  have hlg := h.lg
  refine ⟨h.o.kept (row := some g) hgb (own_ne h.o hr (by decide)), h.lg, fun a p hp => ?_, fun a ha => by rw [tabL_at _ (by omega), rowL_len], h.d⟩
  have han : a < n := by rw [← hlg]; exact (List.getElem?_eq_some_iff.1 hp).1
  rw [tabL_at _ (by omega)]
  by_cases ha : a = i
  · subst ha
    obtain rfl : p = g := by rw [hg] at hp; injection hp with hp; exact hp.symm
    rw [tabL_at _ (by omega)] at ht
    rw [show (rowL m (Y' a)).flatMap intE = ((rowL m (Y a)).flatMap intE).set j (.int .i64 v) from ?_]
    · exact ht
    refine List.ext_getElem? fun b => ?_
    have fl : ∀ (f : Nat → Int) (b : Nat), ((rowL m f).flatMap intE)[b]? = if b < m then some (.int .i64 (f b)) else none := fun f b => by
      by_cases hb : b < m
      · have h1 : (rowL m f)[b]? = some (f b) := by unfold rowL; rw [List.getElem?_map, List.getElem?_range hb]; rfl
        have h2 := flat_at (enc := intE) (sz := 1) (rowL m f) (fun _ _ => rfl) b _ h1 0 (by omega)
        rw [Nat.mul_one, Nat.add_zero] at h2
        rw [h2, if_pos hb]; rfl
      · have l1 : ((rowL m f).flatMap intE).length = m := by
          have : ∀ (l : List Int), (l.flatMap intE).length = l.length := fun l => by
            induction l with
            | nil => rfl
            | cons x r ih => simp [intE, ih]
          rw [this, rowL_len]
        rw [if_neg hb, List.getElem?_eq_none (by omega)]
    rw [List.getElem?_set, fl, fl]
    by_cases hb : j = b
    · subst hb
      rw [if_pos _hj, if_pos rfl, if_pos ?_, hv]
      have := fl (Y a) j
      rw [if_pos _hj] at this
      exact (List.getElem?_eq_some_iff.1 this).1
    · rw [if_neg hb]
      by_cases hbm : b < m
      · rw [if_pos hbm, if_pos hbm, hY a b (by omega)]
      · rw [if_neg hbm, if_neg hbm]
  · have hr2 := h.r a p hp
    have hpg : p ≠ g := fun e => ha (h.d a i p hp (by rw [e]; exact hg))
    rw [tabL_at _ (by omega)] at hr2
    rw [rowL_ext (f := Y' a) (g := Y a) (fun b _ => hY a b (by omega))]
    exact hr2.kept (row := some g) hgb (.inr (by simp [Value.ownBlock, hpg]))
/-- the value v holds the table Y of N rows of N numbers; all of it is made -/
def TabN (N base : Nat) (w : World) (v : Value) (Y : Tb) : Prop := ∃ A c gs, v = .slice A N c ∧ TabJ w base A N c N gs (tabL N Y)
theorem tabN_ok (N base : Nat) {E : TypeId} (h1 : E ≠ 2) (h2 : E ≠ 26) : RepOk E (TabN N base) := by
  refine ⟨fun {w w' v y} h hb => ?_, fun {w w' v y g cs} h hB hg => ?_, fun {w v y} h => ?_⟩
  · obtain ⟨A, c, gs, e, hT⟩ := h
    exact ⟨A, c, gs, e, hT.next hb⟩
  · obtain ⟨A, c, gs, e, hT⟩ := h
    refine ⟨A, c, gs, e, ⟨?_, hT.lg, fun i p hp => ?_, hT.m, hT.d⟩⟩
    · rcases hT.o.2 with ⟨hn, h0⟩ | ⟨p, cap, cur, hv, hb, hh, r⟩
      · exact ⟨hT.o.1, .inl ⟨hn, h0⟩⟩
      · refine ⟨hT.o.1, .inr ⟨p, cap, cur, hv, hb, ?_, r⟩⟩
        have hp : p ≠ g := fun e => by
          subst e
          unfold Blk at hB
          rw [hB] at hh; injection hh with q; injection q with _ q
          exact h2 q
        exact (hg.block p (Array.getElem?_eq_some_iff.1 hh).1 (fun e => hp (by injection e))).trans hh
    · have hr := hT.r i p hp
      rcases hr.2 with ⟨hn, h0⟩ | ⟨p', cap, cur, hv, hb, hh, r⟩
      · exact ⟨hr.1, .inl ⟨hn, h0⟩⟩
      · refine ⟨hr.1, .inr ⟨p', cap, cur, hv, hb, ?_, r⟩⟩
        have hp : p' ≠ g := fun e => by
          subst e
          unfold Blk at hB
          rw [hB] at hh; injection hh with q; injection q with _ q
          exact h1 q
        exact (hg.block p' (Array.getElem?_eq_some_iff.1 hh).1 (fun e => hp (by injection e))).trans hh
  · obtain ⟨A, c, gs, e, _⟩ := h
    exact ⟨_, _, _, e⟩
/-- where a number of a table lies -/
theorem TabJ.num {w : World} {base n c m : Nat} {A : Option Addr} {gs : List Nat} {Y : Tb} (h : TabJ w base A n c m gs (tabL m Y)) (hn : n ≤ m) {i j : Nat} (hi : i < n) (hj : j < m) :
    ∃ p g, A = some ⟨p, 0, none⟩ ∧ p < w.heap.size ∧ gs[i]? = some g ∧ g < w.heap.size ∧ w.cell? ⟨p, i, none⟩ = some (.slice (some ⟨g, 0, none⟩) m m) ∧ w.cell? ⟨g, j, none⟩ = some (.int .i64 (Y i j)) := by
  obtain ⟨p, g, hA, hp, hg, hc, hr⟩ := h.at_ hi
  refine ⟨p, g, hA, hp, hg, (h.lt hg).2, hc, ?_⟩
  rw [tabL_at _ (by omega)] at hr
  have := own_at (sz := 1) (enc := intE) (fun _ _ => rfl) hr (rowL_len _ _) 0 j hj 0 (by omega)
  rw [Nat.mul_one, Nat.add_zero, rowL_at _ hj] at this
  exact this
-- what is counted
def scU (p : ByteArray) (m : Int) (l : Int) : Tb := fun a b => if b = a then 1 % m else if b = a + 1 ∧ a < p.size ∧ 0 ≤ l ∧ ((p.data.toList.getD a 0).toNat : Int) - 97 = l then 1 % m else 0
def scDot (m : Int) (X Y : Tb) (a b : Nat) : Nat → Int
  | 0 => 0
  | c + 1 => (scDot m X Y a b c + X a (a + c) * Y (a + c) b) % m
def scG (m : Int) (X Y : Tb) (_ : Fac) : Tb := fun a b => if b < a then 0 else scDot m X Y a b (b - a + 1)
abbrev scNil : Tb := fun _ _ => 0
abbrev scAll (p : ByteArray) (m : Int) (rs : List Fac) : List Tb := full scNil (fun l => scU p m (l : Int)) (scG m) rs
def InT (N : Nat) (m : Int) (X : Tb) : Prop := ∀ a b, a < N → b < N → 0 ≤ X a b ∧ X a b < m
theorem emod_inT {a m : Int} (h : 1 ≤ m) : 0 ≤ a % m ∧ a % m < m := ⟨Int.emod_nonneg _ (by omega), Int.emod_lt_of_pos _ (by omega)⟩
theorem scDot_in {m : Int} (h : 1 ≤ m) (X Y : Tb) (a b : Nat) : ∀ c, 0 ≤ scDot m X Y a b c ∧ scDot m X Y a b c < m
  | 0 => by unfold scDot; omega
  | c + 1 => emod_inT h
theorem scU_in {m : Int} (h : 1 ≤ m) (p : ByteArray) (l : Int) (N : Nat) : InT N m (scU p m l) := fun a b _ _ => by
  unfold scU
  split
  · exact emod_inT h
  split
  · exact emod_inT h
  · omega
theorem scG_in {m : Int} (h : 1 ≤ m) (X Y : Tb) (r : Fac) (N : Nat) : InT N m (scG m X Y r) := fun a b _ _ => by
  unfold scG
  split
  · omega
  · exact scDot_in h _ _ _ _ _
theorem sc_in {rs : List Fac} {ls : List Int} (hls : gLens rs [] = some ls) {m : Int} (hm : 1 ≤ m) (p : ByteArray) (N : Nat) {k : Nat} (hk : k < rs.length) : InT N m ((scAll p m rs).getD k scNil) :=
  full_ind scNil (fun l => scU p m (l : Int)) (scG m) (wf_of hls) (fun _ x => InT N m x) (fun _ _ _ _ => scU_in hm p _ N) (fun _ _ _ _ _ _ _ _ _ _ _ _ => scG_in hm _ _ _ N) k hk
/-- the table of the word -/
def scTop (rs : List Fac) (p : ByteArray) (m : Int) : Tb := if rs.length = 0 then scU p m (-1) else (scAll p m rs).getD (rs.length - 1) scNil
theorem scTop_eq (rs : List Fac) (p : ByteArray) (m : Int) : (foldAll scNil (fun l => scU p m (l : Int)) (scG m) (scU p m (-1)) rs).getD ((foldAll scNil (fun l => scU p m (l : Int)) (scG m) (scU p m (-1)) rs).length - 1) scNil = scTop rs p m := by
  rw [foldAll_top]; rfl
theorem scTop_in {rs : List Fac} {ls : List Int} (hls : gLens rs [] = some ls) {m : Int} (hm : 1 ≤ m) (p : ByteArray) (N : Nat) : InT N m (scTop rs p m) := by
  unfold scTop
  split
  · exact scU_in hm p _ N
  · exact sc_in hls hm p N (by omega)
end Go.Proofs.Ytkknhpailohjcaa
