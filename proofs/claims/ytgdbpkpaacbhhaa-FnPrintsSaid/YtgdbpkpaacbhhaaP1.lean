/-
  Texts of this claim, merged: GramL Pieces PrintM PrintV CutM Wd PlainM TrimM MapM TrimV Stop RuleP RuleK Mark.
-/
import Derived.Test.YtgdbpkpaacbhhaaP0
import Derived.Deep.RegionHeld3
import Derived.Laws.EntriesVeiled
import Derived.Deep.RegionLaw
import Derived.Maps.OwnOps


/-
  Is a grammar valid, how long is its word: the small functions, in the program and in the reference; copies and equality of grammars in the laws.
-/
namespace Go.Proofs.Ytgdbpkpaacbhhaa
open Go.RowKit

def lastI (l : List Int) : Int := l.getD (l.length - 1) 0
theorem gOk_lens {rs : List Fac} {ls : List Int} (h : gOk rs = some ls) : gLens rs [] = some ls ∧ rs.length ≤ 400 ∧ ls.length = rs.length := by
  unfold gOk at h
  split at h
  · cases h
  · have := gLens_len rs [] ls h
    exact ⟨h, by omega, by simpa using this⟩
section
variable (gb : Nat) (A : Option Addr) (n c : Nat) (rs : List Fac) (w : World) (hg : gb < w.heap.size) (hc : w.cell? ⟨gb, 0, none⟩ = some (.slice A n c)) (hn : n ≤ 100000000) (hr : Rd w w.heap.size A n 3 Fac.cells rs) (hok : ∀ f ∈ rs, f.l.size ≤ maxLen)
include hg hc hn hr hok
set_option maxHeartbeats 400000 in
theorem l02Lengths_any : Calls Try.prog 56 #[.pointer (some ⟨gb, 0, none⟩)] w (LenPost rs w) := by
  have hl := Lib.hid hr.len
  by_cases h4 : 400 < n
  · have e := Lib.hid (show gOk rs = none by unfold gOk; rw [hl.out, if_pos h4])
    go_enter Try.func56, Try.ntmps56
    go_wp2_with fail
    go_ret2
    exact LenPost.no e.out (by (repeat first | exact Below.refl _ _ | assumption | refine Below.drew ?_ | refine Below.alloc ?_ (by first | exact Nat.le_refl _ | (simp; done) | omega | (simp; omega)) _ | refine Below.setCell ?_ (by first | exact Nat.le_refl _ | (simp; done) | omega | (simp; omega)) _))
  · have e := Lib.hid (show gOk rs = gLens rs [] by unfold gOk; rw [hl.out, if_neg h4])
    go_enter Try.func56, Try.ntmps56
    go_wp2_with fail
    refine (l02Sizes_any gb A n c rs _ hg hc hn hr hok).mono ?_
    rintro e' w1 ⟨hb1, ⟨ls, A', c', hgl, rfl, hown⟩ | ⟨hgl, A', n', c', rfl⟩⟩
    · have Hgl := Lib.hid hgl; clear hgl
      go_wp2_with fail
      go_ret2
      exact ⟨hb1, .inl ⟨ls, A', c', e.out.trans Hgl.out, rfl, hown⟩⟩
    · have Hgl := Lib.hid hgl; clear hgl
      go_wp2_with fail
      go_ret2
      exact LenPost.no (e.out.trans Hgl.out) hb1
theorem l02Ok_any (b : Bool) (hb : (gOk rs).isSome = b) : Calls Try.prog 34 #[.pointer (some ⟨gb, 0, none⟩)] w (Ret (.bool b) w) := by
  have Hb := Lib.hid hb; clear hb
  go_enter Try.func34, Try.ntmps34
  go_wp2_with fail
  refine (l02Lengths_any gb A n c rs _ hg hc hn hr hok).mono ?_
  rintro e w1 ⟨hb1, ⟨ls, A', c', hg, rfl, hown⟩ | ⟨hg, A', n', c', rfl⟩⟩
  · have e1 := Lib.hid (show true = b by rw [← Hb.out, hg]; rfl)
    clear hg
    go_wp2_with fail
    go_ret
    exact ⟨ret_bool e1.out, hb1⟩
  · have e1 := Lib.hid (show false = b by rw [← Hb.out, hg]; rfl)
    clear hg
    go_wp2_with fail
    go_ret
    exact ⟨ret_bool e1.out, hb1⟩
theorem l02Length_any (ls : List Int) (hls : gLens rs [] = some ls) : Calls Try.prog 35 #[.pointer (some ⟨gb, 0, none⟩)] w (Ret (.int .i64 (lastI ls)) w) := by
  have Hls := Lib.hid hls; clear hls
  go_enter Try.func35, Try.ntmps35
  go_wp2_with fail
  refine (l02Sizes_any gb A n c rs _ hg hc hn hr hok).mono ?_
  rintro e w1 ⟨hb1, ⟨ls', A', c', hg, rfl, hown⟩ | ⟨hg, _⟩⟩
  · obtain rfl : ls = ls' := by rw [Hls.out] at hg; exact Option.some.inj hg
    clear hg
    have Own := Lib.hid hown; clear hown
    by_cases h0 : ls.length = 0
    · have e1 := Lib.hid (show lastI ls = 0 by unfold lastI; rw [List.getD_eq_getElem?_getD, List.getElem?_eq_none (by omega)]; rfl)
      go_wp2_with fail
      go_ret
      exact ⟨ret_int e1.out.symm, hb1⟩
    · have h1 : 0 < ls.length := by omega
      have hle : ls.length ≤ 100000000 := by
        have := gLens_len rs [] ls Hls.out
        have := hr.len
        simp at *; omega
      have e1 := Lib.hid (show lastI ls = ls.getD ((ls.length : Int) - 1).toNat 0 by unfold lastI; congr 1; omega)
      obtain ⟨g, rfl, _, hlt, c1⟩ := own_int Own.out rfl ((ls.length : Int) - 1) (by omega) (by omega)
      have h0' : ¬ ((ls.length : Int) = 0) := by omega
      have h0b : ((ls.length : Int) == 0) = false := by simpa using h0'
      have c2 : w1.cell? ⟨g, ls.length - 1, none⟩ = some (.int .i64 (ls.getD ((ls.length : Int) - 1).toNat 0)) := by rw [← c1]; congr 2; omega
      clear h0 c1
      generalize ls.getD ((ls.length : Int) - 1).toNat 0 = z at *
      go_wp2_with fail
      go_ret
      exact ⟨ret_int e1.out.symm, hb1⟩
  · rw [Hls.out] at hg; cases hg
end
theorem last_any (A : Option Addr) (n c : Nat) (ls : List Int) (w : World) (hn : n ≤ 100000000) (hr : Rd w w.heap.size A n 1 intE ls) :
    Calls Try.prog 48 #[.slice A n c] w (Ret (.int .i64 (lastI ls)) w) := by
  have hl := Lib.hid hr.len
  by_cases h0 : n = 0
  · subst h0
    have e1 := Lib.hid (show lastI ls = 0 by unfold lastI; rw [List.getD_eq_getElem?_getD, List.getElem?_eq_none (by rw [hl.out]; omega)]; rfl)
    go_enter Try.func48, Try.ntmps48
    go_wp2_with fail
    go_ret
    exact ⟨ret_int e1.out.symm, Below.refl _ _⟩
  · have h0b : ((n : Int) == 0) = false := by simpa using h0
    obtain ⟨b, o, x, rfl, hB, gx, c1⟩ := (show Rd w w.heap.size A n 1 (fun s => [.int .i64 s]) ls from hr).int (k := n - 1) (by omega)
    have e1 := Lib.hid (show lastI ls = x by unfold lastI; rw [hl.out, List.getD_eq_getElem?_getD, gx]; rfl)
    have h1 : 0 < n := by omega
    clear h0 gx
    go_enter Try.func48, Try.ntmps48
    go_wp2_with fail
    go_ret
    exact ⟨ret_int e1.out.symm, Below.refl _ _⟩
/-- a grammar in new memory -/
def RetG (w0 : World) (xs : List Fac) (e : Ending) (w' : World) : Prop :=
  ∃ A c, e = .returned (.agg #[.slice A xs.length c]) ∧ w'.ownsRow w0.heap.size 82 3 (.slice A xs.length c) xs.length (xs.flatMap Fac.cells) ∧ Below w0.heap.size w0 w'
end Go.Proofs.Ytgdbpkpaacbhhaa


/-
  The rules that are met when the last rule is taken apart for a part of its word: (Grammar).pieces, by the contract of the function that it is handed.
-/
namespace Go.Proofs.Ytgdbpkpaacbhhaa
open Go.RowKit

theorem Rd.i64 {w : World} {B n : Nat} {A : Option Addr} {xs : List Int} {k : Nat} (h : Rd w B A n 1 intE xs) (hk : k < n) :
    ∃ b o, A = some ⟨b, o, none⟩ ∧ b < B ∧ w.cell? ⟨b, o + k, none⟩ = some (.int .i64 (xs.getD k 0)) := by
  obtain ⟨b, o, hA, hb, x, hx, hc⟩ := h.at_ hk
  refine ⟨b, o, hA, hb, ?_⟩
  have := hc 0 _ rfl
  rw [List.getD_eq_getElem?_getD, hx]
  simpa using this
/-- the rules that are met -/
def pcs (ls : List Int) (rs : List Fac) (i j : Int) : Nat → Nat → Int → List Nat
  | 0, _, _ => []
  | f + 1, r, a =>
    if a + ls.getD r 0 ≤ i then [] else if j ≤ a then [] else if i ≤ a ∧ a + ls.getD r 0 ≤ j then [r] else
    match rs[r]? with
    | none => []
    | some x => pcs ls rs i j f x.a.toNat a ++ pcs ls rs i j f x.b.toNat (a + ls.getD x.a.toNat 0)
theorem pcs_out1 {ls : List Int} {rs : List Fac} {i j : Int} {f r : Nat} {a : Int} (h : a + ls.getD r 0 ≤ i) : pcs ls rs i j f r a = [] := by
  cases f with
  | zero => rfl
  | succ f => rw [pcs, if_pos h]
theorem pcs_out2 {ls : List Int} {rs : List Fac} {i j : Int} {f r : Nat} {a : Int} (h : j ≤ a) : pcs ls rs i j f r a = [] := by
  cases f with
  | zero => rfl
  | succ f => rw [pcs, if_pos h]; split <;> rfl
theorem pcs_in {ls : List Int} {rs : List Fac} {i j : Int} {f r : Nat} {a : Int} (hf : r < f) (h1 : ¬ a + ls.getD r 0 ≤ i) (h2 : ¬ j ≤ a) (h3 : i ≤ a) (h4 : a + ls.getD r 0 ≤ j) : pcs ls rs i j f r a = [r] := by
  obtain ⟨g, rfl⟩ : ∃ g, f = g + 1 := ⟨f - 1, by omega⟩
  rw [pcs, if_neg h1, if_neg h2, if_pos ⟨h3, h4⟩]
theorem pcs_go {ls : List Int} {rs : List Fac} {i j : Int} {f r : Nat} {a : Int} {x : Fac} (hf : r < f) (h1 : ¬ a + ls.getD r 0 ≤ i) (h2 : ¬ j ≤ a) (h3 : ¬ (i ≤ a ∧ a + ls.getD r 0 ≤ j)) (hx : rs[r]? = some x) :
    pcs ls rs i j f r a = pcs ls rs i j (f - 1) x.a.toNat a ++ pcs ls rs i j (f - 1) x.b.toNat (a + ls.getD x.a.toNat 0) := by
  obtain ⟨g, rfl⟩ : ∃ g, f = g + 1 := ⟨f - 1, by omega⟩
  rw [pcs, if_neg h1, if_neg h2, if_neg h3, hx]
  rfl
theorem pcs_fuel {ls : List Int} {rs : List Fac} {i j : Int} (hls : gLens rs [] = some ls) : ∀ {r f g : Nat} {a : Int}, r < f → r < g → pcs ls rs i j f r a = pcs ls rs i j g r a := by
  intro r
  induction r using Nat.strongRecOn with
  | ind r ih =>
    intro f g a hf hg
    by_cases h1 : a + ls.getD r 0 ≤ i
    · rw [pcs_out1 h1, pcs_out1 h1]
    by_cases h2 : j ≤ a
    · rw [pcs_out2 h2, pcs_out2 h2]
    by_cases h3 : i ≤ a ∧ a + ls.getD r 0 ≤ j
    · rw [pcs_in hf h1 h2 h3.1 h3.2, pcs_in hg h1 h2 h3.1 h3.2]
    rcases hx : rs[r]? with _ | x
    · obtain ⟨f', rfl⟩ : ∃ f', f = f' + 1 := ⟨f - 1, by omega⟩
      obtain ⟨g', rfl⟩ : ∃ g', g = g' + 1 := ⟨g - 1, by omega⟩
      rw [pcs, pcs, if_neg h1, if_neg h1, if_neg h2, if_neg h2, if_neg h3, if_neg h3, hx]
    · rcases wf_of hls r x hx with ⟨h0, ha0, ha1, hb0, hb1⟩ | ⟨cc, _, hxl, hxa, hxb⟩
      · rw [pcs_go hf h1 h2 h3 hx, pcs_go hg h1 h2 h3 hx, ih x.a.toNat (by omega) (f := f - 1) (g := g - 1) (by omega) (by omega), ih x.b.toNat (by omega) (f := f - 1) (g := g - 1) (by omega) (by omega)]
      · exfalso
        have h0 : x.l.size ≠ 0 := by rw [hxl]; show (1 : Nat) ≠ 0; omega
        have := lens_let hls hx h0
        apply h3
        omega
def takeV (b0 : Nat) : Value := .func (.func 85) #[] #[.pointer (some ⟨b0 + 1, 0, none⟩), .pointer (some ⟨b0 + 2, 0, none⟩), .pointer (some ⟨b0 + 3, 0, none⟩), .pointer (some ⟨b0 + 4, 0, none⟩), .pointer (some ⟨b0, 0, none⟩), .pointer (some ⟨b0 + 5, 0, none⟩)]
/-- the boxes of 'pieces', and the lists that it reads -/
def PEnv (B b0 : Nat) (A : Option Addr) (n c : Nat) (rs : List Fac) (A2 : Option Addr) (c2 : Nat) (ls : List Int) (i j : Int) (fp : Nat) (cp : Array Value) (w : World) : Prop :=
  Blk w b0 26 #[.slice A n c] ∧ Blk w (b0 + 1) 46 #[.slice A2 n c2] ∧ Blk w (b0 + 2) 2 #[.int .i64 i] ∧ Blk w (b0 + 3) 2 #[.int .i64 j] ∧
    Blk w (b0 + 4) 85 #[.func (.func fp) #[] cp] ∧ Blk w (b0 + 5) 116 #[takeV b0] ∧ Rd w B A n 3 Fac.cells rs ∧ Rd w B A2 n 1 intE ls
section
variable {B b0 : Nat} {A : Option Addr} {n c : Nat} {rs : List Fac} {A2 : Option Addr} {c2 : Nat} {ls : List Int} {i j : Int} {fp : Nat} {cp : Array Value} {w w' : World}
theorem PEnv.next (h : PEnv B b0 A n c rs A2 c2 ls i j fp cp w) (hB : B ≤ b0) (hb : Below w.heap.size w w') : PEnv B b0 A n c rs A2 c2 ls i j fp cp w' := by
  obtain ⟨h0, h1, h2, h3, h4, h5, h6, h7⟩ := h
  have := h0.lt
  exact ⟨h0.next hb, h1.next hb, h2.next hb, h3.next hb, h4.next hb, h5.next hb, h6.next' (by omega) hb, h7.next' (by omega) hb⟩
theorem PEnv.grown {ob : Nat} (h : PEnv B b0 A n c rs A2 c2 ls i j fp cp w) (hB : B ≤ ob) (ho : ob < b0) (hb : w.grownBy w' (some ob)) : PEnv B b0 A n c rs A2 c2 ls i j fp cp w' := by
  obtain ⟨h0, h1, h2, h3, h4, h5, h6, h7⟩ := h
  have := h0.lt
  have ne : ∀ k, b0 ≤ k → some k ≠ some ob := fun k hk e => by injection e with e; omega
  exact ⟨h0.grown hb (ne _ (by omega)), h1.grown hb (ne _ (by omega)), h2.grown hb (ne _ (by omega)), h3.grown hb (ne _ (by omega)), h4.grown hb (ne _ (by omega)), h5.grown hb (ne _ (by omega)),
    h6.grown (by omega) hb (fun k hk => by injection hk with hk; omega), h7.grown (by omega) hb (fun k hk => by injection hk with hk; omega)⟩
end
section
variable {S : Type} (Inv : S → World → Prop) (step : S → Nat → S) (hI : ∀ s w w', Inv s w → Below w.heap.size w w' → Inv s w') (B ob b0 : Nat) (hBo : B ≤ ob) (hob : ob < b0) (A : Option Addr) (n c : Nat) (rs : List Fac) (A2 : Option Addr) (c2 : Nat) (ls : List Int) (i j : Int)
  (fp : Nat) (ep : EnterOk fp) (cp : Array Value) (hn : n ≤ 1048576) (hls : gLens rs [] = some ls)
  (hW : ∀ (s : S) (k : Nat) (w : World), k < n → Inv s w → Calls Try.prog fp (#[.int .i64 (k : Int)] ++ cp) w (fun e w' => e = .returned (.tuple #[]) ∧ w.grownBy w' (some ob) ∧ Inv (step s k) w'))
include hI hBo hob ep hn hls hW
omit hn in
set_option maxHeartbeats 1000000 in
set_option maxRecDepth 100000 in
theorem take_any : ∀ (r : Nat) (a : Int) (s : S) (w : World), r < n → 0 ≤ a → a + ls.getD r 0 ≤ 1000000000000000 → PEnv B b0 A n c rs A2 c2 ls i j fp cp w → Inv s w →
    Calls Try.prog 85 #[.int .i64 (r : Int), .int .i64 a, .pointer (some ⟨b0 + 1, 0, none⟩), .pointer (some ⟨b0 + 2, 0, none⟩), .pointer (some ⟨b0 + 3, 0, none⟩), .pointer (some ⟨b0 + 4, 0, none⟩), .pointer (some ⟨b0, 0, none⟩), .pointer (some ⟨b0 + 5, 0, none⟩)] w
      (fun e w' => e = .returned (.tuple #[]) ∧ w.grownBy w' (some ob) ∧ Inv ((pcs ls rs i j (r + 1) r a).foldl step s) w') := by
  intro r
  induction r using Nat.strongRecOn with
  | ind r ih =>
    intro a s w hr ha ha2 hE hS
    have IH := Lib.hid ih; clear ih
    have HW := Lib.hid hW
    have HI := Lib.hid hI
    have HE := Lib.hid hE
    have HS := Lib.hid hS
    have HL := Lib.hid hls
    obtain ⟨e0, e1, e2, e3, e4, e5, e6, e7⟩ := hE
    have hl := Lib.hid e6.len
    have z0 := e0.lt; have z1 := e1.lt; have z2 := e2.lt; have z3 := e3.lt; have z4 := e4.lt; have z5 := e5.lt
    have d0 := e0.cell 0; have d1 := e1.cell 0; have d2 := e2.cell 0; have d3 := e3.cell 0; have d4 := e4.cell 0; have d5 := e5.cell 0
    have hBs : B ≤ w.heap.size := by omega
    have d5' : w.cell? ⟨b0 + 5, 0, none⟩ = some (takeV b0) := d5
    clear d5
    unfold takeV at d5'
    obtain ⟨p2, o2, rfl, hB2, c2'⟩ := (e7.more hBs).i64 (k := r) hr
    obtain ⟨b, o, x, rfl, hB1, gx, c00, c01, c02⟩ := (e6.more hBs).fac hr
    have lb := lens_bound HL.out (i := r) (by rw [hl.out]; exact hr)
    have Gx := Lib.hid gx
    clear hS e0 e1 e2 e3 e4 e5 e6 e7 hW hI gx
    have et := enterOk Try.func85 (by kernel_rfl) (by kernel_rfl)
    unfold EnterOk at et
    have ep' := ep
    unfold EnterOk at ep'
    generalize hlr : ls.getD r 0 = lr at *
    obtain ⟨lb0, lb1⟩ := lb
    have u1 : IntKind.i64.wrap (a + lr) = a + lr := IntWalk.i64_in _ (by omega)
    have i1 : (0 : Int) ≤ (r : Int) := by omega
    have i2 : (r : Int) < n := by omega
    by_cases h1 : a + lr ≤ i
    · have e := Lib.hid (show pcs ls rs i j (r + 1) r a = [] from pcs_out1 (by rw [hlr]; exact h1))
      go_enter Try.func85, Try.ntmps85
      go_wp2_with fail
      refine bodyPost_ret (results_none rfl _ _ _) rfl ?_
      exact ⟨rfl, gb_below (Below.refl _ _), by rw [e.out]; exact HS.out⟩
    by_cases h2 : j ≤ a
    · have e := Lib.hid (show pcs ls rs i j (r + 1) r a = [] from pcs_out2 h2)
      go_enter Try.func85, Try.ntmps85
      go_wp2_with fail
      refine bodyPost_ret (results_none rfl _ _ _) rfl ?_
      exact ⟨rfl, gb_below (Below.refl _ _), by rw [e.out]; exact HS.out⟩
    by_cases h3 : i ≤ a ∧ a + lr ≤ j
    · have e := Lib.hid (show pcs ls rs i j (r + 1) r a = [r] from pcs_in (by omega) (by rw [hlr]; exact h1) h2 h3.1 (by rw [hlr]; exact h3.2))
      obtain ⟨h30, h31⟩ := h3
      go_enter Try.func85, Try.ntmps85
      go_wp2_with fail
      refine (HW.out s r w hr HS.out).mono ?_
      rintro e1 w1 ⟨rfl, hg1, hs1⟩
      go_wp2_with fail
      refine bodyPost_ret (results_none rfl _ _ _) rfl ?_
      exact ⟨rfl, hg1, by rw [e.out]; exact hs1⟩
    · have e := Lib.hid (show pcs ls rs i j (r + 1) r a = _ from pcs_go (by omega) (by rw [hlr]; exact h1) h2 (by rw [hlr]; exact h3) Gx.out)
      rw [Nat.add_sub_cancel] at e
      rcases wf_of HL.out r x Gx.out with ⟨h0, ha0, ha1, hb0', hb1'⟩ | ⟨cc, _, hxl, _⟩
      case inr =>
        exfalso
        have h0 : x.l.size ≠ 0 := by rw [hxl]; show (1 : Nat) ≠ 0; omega
        have := lens_let HL.out Gx.out h0
        apply h3
        omega
      have lp := lens_pair HL.out Gx.out h0
      have lb2 := lens_bound HL.out (i := x.a.toNat) (by rw [hl.out]; omega)
      have lb3 := lens_bound HL.out (i := x.b.toNat) (by rw [hl.out]; omega)
      have hnot : i ≤ a → ¬ (a + lr ≤ j) := fun h4 h5 => h3 ⟨h4, h5⟩
      by_cases h4 : i ≤ a
      all_goals
        try have h5 := hnot h4
        clear hnot h3
        go_enter Try.func85, Try.ntmps85
        go_wp2_with fail
        refine namedC fun w1 H1 => ?_
        have hb1 : Below w.heap.size w w1 := by rw [H1.out]; (repeat first | exact Below.refl _ _ | assumption | refine Below.drew ?_ | refine Below.alloc ?_ (by first | exact Nat.le_refl _ | (simp; done) | omega | (simp; omega)) _ | refine Below.setCell ?_ (by first | exact Nat.le_refl _ | (simp; done) | omega | (simp; omega)) _)
        have BX := Lib.hid (show Blk w1 w.heap.size 82 #[.string x.l, .int .i64 x.a, .int .i64 x.b] by rw [H1.out]; exact Blk.new _ _ _)
        clear H1
        have hx0 := Lib.hid (IH.out x.a.toNat (by omega) a s w1 (by omega) ha (by omega) (HE.out.next (by omega) hb1) (HI.out s w w1 HS.out hb1))
        rw [show ((x.a.toNat : Nat) : Int) = x.a by omega] at hx0
        refine hx0.out.mono ?_
        rintro e1 w2 ⟨rfl, hg2, hs2⟩
        have G2 := Lib.hid (gb_trans (gb_below hb1 (r := some ob)) hg2)
        have HS2 := Lib.hid hs2
        have HE2 := Lib.hid ((HE.out.next (by omega) hb1).grown hBo hob hg2)
        have BX2 := BX.out.grown hg2 (by intro e; injection e with e; omega)
        have BX3 := Lib.hid BX2
        have zx := BX2.lt
        clear hs2 hg2 BX2 d0 d1 d2 d3 d4 d5' c00 c01 c02 c2'
        obtain ⟨e0, e1, e2, e3, e4, e5, e6, e7⟩ := HE2.out
        have z0' := e0.lt; have z1' := e1.lt; have z5' := e5.lt
        have d1 := e1.cell 0
        have d5 : w2.cell? ⟨b0 + 5, 0, none⟩ = some (takeV b0) := e5.cell 0
        unfold takeV at d5
        have hBs2 : B ≤ w2.heap.size := by omega
        obtain ⟨p9, o9, hA9, hB9, c9⟩ := (e7.more hBs2).i64 (k := x.a.toNat) (by omega)
        obtain ⟨rfl, rfl⟩ : p2 = p9 ∧ o2 = o9 := by injection hA9 with hA9; injection hA9 with h1 h2; exact ⟨h1, h2⟩
        have hx1 := Lib.hid (IH.out x.b.toNat (by omega) (a + ls.getD x.a.toNat 0) ((pcs ls rs i j (x.a.toNat + 1) x.a.toNat a).foldl step s) w2.drew (by omega) (by omega) (by omega) (HE2.out.next (by omega) (Below.refl _ _).drew) (HI.out _ _ _ HS2.out (Below.refl _ _).drew))
        rw [show ((x.b.toNat : Nat) : Int) = x.b by omega] at hx1
        have ef := Lib.hid (show (pcs ls rs i j (r + 1) r a).foldl step s = (pcs ls rs i j (x.b.toNat + 1) x.b.toNat (a + ls.getD x.a.toNat 0)).foldl step ((pcs ls rs i j (x.a.toNat + 1) x.a.toNat a).foldl step s) by
          rw [e.out, List.foldl_append, pcs_fuel HL.out (f := r) (g := x.a.toNat + 1) (by omega) (by omega), pcs_fuel HL.out (f := r) (g := x.b.toNat + 1) (by omega) (by omega)])
        generalize hy : ls.getD x.a.toNat 0 = y at *
        have u2 : IntKind.i64.wrap (a + y) = a + y := IntWalk.i64_in _ (by omega)
        have i5 : x.a < (n : Int) := by omega
        have D1 := Lib.hid d1; have D5 := Lib.hid d5; have C9 := Lib.hid c9
        have Hn4 := Lib.hid (show some p2 ≠ some ob from by
          obtain ⟨p9, o9, hA9, hB9', _⟩ := e7.i64 (k := x.a.toNat) (by omega)
          injection hA9 with hA9; injection hA9 with h1 h2
          intro e; injection e with e; omega)
        clear d1 d5 c9
        clear e0 e1 e2 e3 e4 e5 e6 e7 hA9 hx0 h1 h2 lp lb2 lb3 u1 hy hlr lb0 lb1 ha2 h4
        try clear h5
        clear IH HW HI HE HS HL BX e
        go_wp2_with fail
        have d1 := D1.out; have d5 := D5.out; have c9 := C9.out
        obtain ⟨x0, x1, x2⟩ := BX3.out.three
        have n1 : some w.heap.size ≠ some ob := by intro e; injection e with e; omega
        have n2 : some (b0 + 1) ≠ some ob := by intro e; injection e with e; omega
        have n3 : some (b0 + 5) ≠ some ob := by intro e; injection e with e; omega
        have n4 : some p2 ≠ some ob := Hn4.out
        go_region_held3 (fun w' => w'.cell? ⟨w.heap.size, 1, none⟩ = some (.int .i64 x.a) ∧ w'.cell? ⟨w.heap.size, 2, none⟩ = some (.int .i64 x.b) ∧ w'.cell? ⟨b0 + 1, 0, none⟩ = some (.slice (some ⟨p2, o2, none⟩) n c2) ∧
            w'.cell? ⟨b0 + 5, 0, none⟩ = some (.func (.func 85) #[] #[.pointer (some ⟨b0 + 1, 0, none⟩), .pointer (some ⟨b0 + 2, 0, none⟩), .pointer (some ⟨b0 + 3, 0, none⟩), .pointer (some ⟨b0 + 4, 0, none⟩), .pointer (some ⟨b0, 0, none⟩), .pointer (some ⟨b0 + 5, 0, none⟩)]) ∧
            w'.cell? ⟨p2, o2 + x.a.toNat, none⟩ = some (.int .i64 y))
          (first | exact ⟨s0, s1, s2, s3, s4⟩ | exact ⟨x1, x2, d1, d5, c9⟩ | go_keep)
          (first
            | (go_at_call 85
               refine hx1.out.mono ?_
               rintro e9 w3 ⟨rfl, hg3, hs3⟩
               have G3 := Lib.hid (gb_trans G2.out (gb_trans (gb_below (Below.refl w2.heap.size w2).drew (r := some ob)) hg3))
               have s0 : w3.cell? ⟨w.heap.size, 1, none⟩ = some (.int .i64 x.a) := (hg3.cell_far ⟨w.heap.size, 1, none⟩ zx n1).trans x1
               have s1 : w3.cell? ⟨w.heap.size, 2, none⟩ = some (.int .i64 x.b) := (hg3.cell_far ⟨w.heap.size, 2, none⟩ zx n1).trans x2
               have s2 : w3.cell? ⟨b0 + 1, 0, none⟩ = some (.slice (some ⟨p2, o2, none⟩) n c2) := (hg3.cell_far ⟨b0 + 1, 0, none⟩ z1' n2).trans d1
               have s3 := (hg3.cell_far ⟨b0 + 5, 0, none⟩ z5' n3).trans d5
               have s4 : w3.cell? ⟨p2, o2 + x.a.toNat, none⟩ = some (.int .i64 y) := (hg3.cell_far ⟨p2, o2 + x.a.toNat, none⟩ hB9 n4).trans c9
               have HS3 := Lib.hid hs3
               clear hg3 hs3)
            | fail)
        go_wp2_with fail
        go_end0
        exact ⟨rfl, G3.out, by rw [ef.out]; exact HS3.out⟩
/-- the rules that are met, from the last one on -/
def pcsT (ls : List Int) (rs : List Fac) (i j : Int) : List Nat := if 0 < rs.length ∧ i < j then pcs ls rs i j rs.length (rs.length - 1) 0 else []
set_option maxHeartbeats 1000000 in
set_option maxRecDepth 100000 in
theorem pieces_any (s : S) (w : World) (hw : w.heap.size = b0) (hA : Rd w B A n 3 Fac.cells rs) (hA2 : Rd w B A2 n 1 intE ls) (hS : Inv s w) :
    Calls Try.prog 53 #[.agg #[.slice A n c], .slice A2 n c2, .int .i64 i, .int .i64 j, .func (.func fp) #[] cp] w
      (fun e w' => e = .returned (.tuple #[]) ∧ w.grownBy w' (some ob) ∧ Inv ((pcsT ls rs i j).foldl step s) w') := by
  have HW := Lib.hid hW
  have HI := Lib.hid hI
  have HS := Lib.hid hS
  have HL := Lib.hid hls
  have hl := Lib.hid hA.len
  have HA := Lib.hid hA
  have HA2 := Lib.hid hA2
  subst hw
  clear hW hI hS hA hA2 hls
  have et := enterOk Try.func85 (by kernel_rfl) (by kernel_rfl)
  unfold EnterOk at et
  by_cases h0 : n = 0
  · have e := Lib.hid (show pcsT ls rs i j = [] by unfold pcsT; rw [if_neg (by rw [hl.out]; omega)])
    subst h0
    go_enter Try.func53, Try.ntmps53
    go_wp2_with fail
    go_end0
    rw [e.out]
    refine ⟨rfl, gb_below (by (repeat first | exact Below.refl _ _ | assumption | refine Below.drew ?_ | refine Below.alloc ?_ (by first | exact Nat.le_refl _ | (simp; done) | omega | (simp; omega)) _ | refine Below.setCell ?_ (by first | exact Nat.le_refl _ | (simp; done) | omega | (simp; omega)) _)), HI.out _ _ _ HS.out (by (repeat first | exact Below.refl _ _ | assumption | refine Below.drew ?_ | refine Below.alloc ?_ (by first | exact Nat.le_refl _ | (simp; done) | omega | (simp; omega)) _ | refine Below.setCell ?_ (by first | exact Nat.le_refl _ | (simp; done) | omega | (simp; omega)) _))⟩
  by_cases hij : i < j
  · have e := Lib.hid (show pcsT ls rs i j = pcs ls rs i j (n - 1 + 1) (n - 1) 0 by unfold pcsT; rw [if_pos (by rw [hl.out]; omega), hl.out, show n - 1 + 1 = n by omega])
    have h1 : 0 < n := by omega
    have u0 : IntKind.i64.wrap ((n : Int) - 1) = (n : Int) - 1 := IntWalk.i64_in _ (by omega)
    have hlb := lens_bound HL.out (i := n - 1) (by rw [hl.out]; omega)
    go_enter Try.func53, Try.ntmps53
    go_wp2_with fail
    refine namedC fun w1 H1 => ?_
    have hb1 : Below w.heap.size w w1 := by rw [H1.out]; (repeat first | exact Below.refl _ _ | assumption | refine Below.drew ?_ | refine Below.alloc ?_ (by first | exact Nat.le_refl _ | (simp; done) | omega | (simp; omega)) _ | refine Below.setCell ?_ (by first | exact Nat.le_refl _ | (simp; done) | omega | (simp; omega)) _)
    have hE : PEnv B w.heap.size A n c rs A2 c2 ls i j fp cp w1 := by
      refine ⟨?_, ?_, ?_, ?_, ?_, ?_, (HA.out.next' (by omega) hb1), (HA2.out.next' (by omega) hb1)⟩
      · rw [H1.out]; exact (((((Blk.new w _ _).alloc _).alloc _).alloc _).alloc _).alloc _
      · rw [H1.out]; simpa using ((((Blk.new (w.alloc _) _ _).alloc _).alloc _).alloc _).alloc _
      · rw [H1.out]; simpa using (((Blk.new ((w.alloc _).alloc _) _ _).alloc _).alloc _).alloc _
      · rw [H1.out]; simpa using ((Blk.new (((w.alloc _).alloc _).alloc _) _ _).alloc _).alloc _
      · rw [H1.out]; simpa using (Blk.new ((((w.alloc _).alloc _).alloc _).alloc _) _ _).alloc _
      · rw [H1.out]; simpa [takeV] using Blk.new (((((w.alloc _).alloc _).alloc _).alloc _).alloc _) _ _
    have hE' := Lib.hid hE
    clear hE H1
    have ht := take_any Inv step HI.out B ob w.heap.size hBo hob A n c rs A2 c2 ls i j fp ep cp HL.out HW.out (n - 1) 0 s w1 (by omega) (by omega) (by omega) hE'.out (HI.out _ _ _ HS.out hb1)
    rw [show ((n - 1 : Nat) : Int) = (n : Int) - 1 by omega] at ht
    refine (by simpa [Nat.add_assoc] using ht : Calls _ _ _ _ _).mono ?_
    rintro e1 w2 ⟨rfl, hg2, hs2⟩
    have G2 := Lib.hid (gb_trans (gb_below hb1 (r := some ob)) hg2)
    have HS2 := Lib.hid hs2
    clear hg2 hs2 ht
    go_wp2_with fail
    go_end0
    exact ⟨rfl, G2.out, by rw [e.out]; exact HS2.out⟩
  · have e := Lib.hid (show pcsT ls rs i j = [] by unfold pcsT; rw [if_neg (by omega)])
    have h1 : 0 < n := by omega
    go_enter Try.func53, Try.ntmps53
    go_wp2_with fail
    go_end0
    rw [e.out]
    refine ⟨rfl, gb_below (by (repeat first | exact Below.refl _ _ | assumption | refine Below.drew ?_ | refine Below.alloc ?_ (by first | exact Nat.le_refl _ | (simp; done) | omega | (simp; omega)) _ | refine Below.setCell ?_ (by first | exact Nat.le_refl _ | (simp; done) | omega | (simp; omega)) _)), HI.out _ _ _ HS.out (by (repeat first | exact Below.refl _ _ | assumption | refine Below.drew ?_ | refine Below.alloc ?_ (by first | exact Nat.le_refl _ | (simp; done) | omega | (simp; omega)) _ | refine Below.setCell ?_ (by first | exact Nat.le_refl _ | (simp; done) | omega | (simp; omega)) _))⟩
end
end Go.Proofs.Ytgdbpkpaacbhhaa


/-
  Prints: the plain part.
-/
namespace Go.Proofs.Ytgdbpkpaacbhhaa

theorem emodR (a b m : Int) : a * (b % m) % m = a * b % m := by rw [Int.mul_emod, Int.emod_emod, ← Int.mul_emod]
theorem emodL (a b m : Int) : (a % m) * b % m = a * b % m := by rw [Int.mul_emod, Int.emod_emod, ← Int.mul_emod]
theorem emod_in {a m : Int} (h : 1 ≤ m) : 0 ≤ a % m ∧ a % m < m := ⟨Int.emod_nonneg _ (by omega), Int.emod_lt_of_pos _ (by omega)⟩
theorem emod_id {a m : Int} (h0 : 0 ≤ a) (h : a < m) : a % m = a := Int.emod_eq_of_lt h0 h
/-- the rest of a power -/
def pw (b m : Int) : Nat → Int
  | 0 => 1 % m
  | n + 1 => pw b m n * b % m
theorem pw_in {b m : Int} (h : 1 ≤ m) : ∀ n, 0 ≤ pw b m n ∧ pw b m n < m
  | 0 => emod_in h
  | _ + 1 => emod_in h
theorem pw_one {b m : Int} (h0 : 0 ≤ b) (h : b < m) : pw b m 1 = b := by
  show 1 % m * b % m = b
  rw [emodL, Int.one_mul, emod_id h0 h]
theorem pw_add (b m : Int) (h : 1 ≤ m) (x : Nat) : ∀ y, pw b m (x + y) = pw b m x * pw b m y % m
  | 0 => by
    show pw b m x = pw b m x * (1 % m) % m
    rw [emodR, Int.mul_one, emod_id (pw_in h x).1 (pw_in h x).2]
  | y + 1 => by
    show pw b m (x + y) * b % m = pw b m x * (pw b m y * b % m) % m
    rw [pw_add b m h x y, emodL, emodR, Int.mul_assoc]
theorem pw_sq (b m : Int) : ∀ k, pw (b * b % m) m k = pw b m (2 * k)
  | 0 => rfl
  | k + 1 => by
    show pw (b * b % m) m k * (b * b % m) % m = _
    rw [pw_sq b m k, show 2 * (k + 1) = 2 * k + 1 + 1 by omega]
    show _ = pw b m (2 * k) * b % m * b % m
    rw [emodL, emodR, Int.mul_assoc]
/-- what is left of a power by squaring -/
theorem pw_even (o b m : Int) (k : Nat) : o * pw (b * b % m) m k % m = o * pw b m (2 * k) % m := by rw [pw_sq]
theorem pw_odd (o b m : Int) (k : Nat) : (o * b % m) * pw (b * b % m) m k % m = o * pw b m (2 * k + 1) % m := by
  rw [pw_sq]
  show _ = o * (pw b m (2 * k) * b % m) % m
  rw [emodL, emodR]
  congr 1
  rw [Int.mul_assoc, Int.mul_comm b]

def mkF (b m : Int) (l : Nat) : Mk := ⟨((l : Int) + 1) % m, b⟩
def mkG (m : Int) (x y : Mk) (_ : Fac) : Mk := ⟨(x.p + x.w * y.p) % m, x.w * y.w % m⟩
abbrev mkAll (b m : Int) (rs : List Fac) : List Mk := full Mk.nil (mkF b m) (mkG m) rs
def prF (m : Int) (l : Nat) : Int := ((l : Int) + 1) % m
def prG (b m : Int) (ls : List Int) (x y : Int) (r : Fac) : Int := (x + pw b m (ls.getD r.a.toNat 0).toNat * y) % m
abbrev prAll (b m : Int) (ls : List Int) (rs : List Fac) : List Int := full 0 (prF m) (prG b m ls) rs
theorem mk_pr {rs : List Fac} {ls : List Int} (hls : gLens rs [] = some ls) {b m : Int} (hm : 1 ≤ m) (h0 : 0 ≤ b) (h : b < m) :
    ∀ k, k < rs.length → ((mkAll b m rs).getD k Mk.nil).p = (prAll b m ls rs).getD k 0 ∧ ((mkAll b m rs).getD k Mk.nil).w = pw b m (ls.getD k 0).toNat := by
  intro k
  induction k using Nat.strongRecOn with
  | ind k ih =>
    intro hk
    have gx : rs[k]? = some (rs[k]'(by omega)) := List.getElem?_eq_getElem _
    have hwf := wf_of hls
    rcases hwf k _ gx with ⟨h0', ha0, ha1, hb0, hb1⟩ | ⟨c, hc, hl, _⟩
    · obtain ⟨p1, w1⟩ := ih (rs[k]'(by omega)).a.toNat (by omega) (by omega)
      obtain ⟨p2, w2⟩ := ih (rs[k]'(by omega)).b.toNat (by omega) (by omega)
      have la := lens_bound hls (i := (rs[k]'(by omega)).a.toNat) (by omega)
      have lb := lens_bound hls (i := (rs[k]'(by omega)).b.toNat) (by omega)
      rw [full_pair Mk.nil _ _ hwf gx h0', full_pair 0 _ _ hwf gx h0', lens_pair hls gx h0']
      rw [show ((ls.getD (rs[k]'(by omega)).a.toNat 0) + (ls.getD (rs[k]'(by omega)).b.toNat 0)).toNat = (ls.getD (rs[k]'(by omega)).a.toNat 0).toNat + (ls.getD (rs[k]'(by omega)).b.toNat 0).toNat by omega]
      refine ⟨?_, ?_⟩
      · show (((mkAll b m rs).getD _ Mk.nil).p + ((mkAll b m rs).getD _ Mk.nil).w * ((mkAll b m rs).getD _ Mk.nil).p) % m = ((prAll b m ls rs).getD _ 0 + _ * (prAll b m ls rs).getD _ 0) % m
        rw [p1, p2, w1]
      · show ((mkAll b m rs).getD _ Mk.nil).w * ((mkAll b m rs).getD _ Mk.nil).w % m = _
        rw [w1, w2, pw_add b m hm]
    · have h0' : (rs[k]'(by omega)).l.size ≠ 0 := by rw [hl]; show (1 : Nat) ≠ 0; omega
      rw [full_let Mk.nil _ _ gx h0', full_let 0 _ _ gx h0', lens_let hls gx h0']
      exact ⟨rfl, (pw_one h0 h).symm⟩
theorem pr_in {rs : List Fac} {ls : List Int} (hls : gLens rs [] = some ls) {b m : Int} (hm : 1 ≤ m) {k : Nat} (hk : k < rs.length) : 0 ≤ (prAll b m ls rs).getD k 0 ∧ (prAll b m ls rs).getD k 0 < m :=
  full_ind 0 (prF m) (prG b m ls) (wf_of hls) (fun _ x => 0 ≤ x ∧ x < m) (fun _ _ _ _ => emod_in hm) (fun _ _ _ _ _ _ _ _ _ _ _ _ => emod_in hm) k hk
theorem mk_in {rs : List Fac} {ls : List Int} (hls : gLens rs [] = some ls) {b m : Int} (hm : 1 ≤ m) (h0 : 0 ≤ b) (h : b < m) {k : Nat} (hk : k < rs.length) :
    (0 ≤ ((mkAll b m rs).getD k Mk.nil).p ∧ ((mkAll b m rs).getD k Mk.nil).p < m) ∧ 0 ≤ ((mkAll b m rs).getD k Mk.nil).w ∧ ((mkAll b m rs).getD k Mk.nil).w < m := by
  obtain ⟨e1, e2⟩ := mk_pr hls hm h0 h k hk
  rw [e1, e2]
  exact ⟨pr_in hls hm hk, pw_in hm _⟩
/-- the print of a part, as the program puts it together -/
def partMk (b m : Int) (rs : List Fac) (l : List Nat) : Mk := l.foldl (fun s k => mkG m s ((mkAll b m rs).getD k Mk.nil) default) ⟨0, 1 % m⟩
/-- the whole word is one piece -/
theorem pcs_whole {rs : List Fac} {ls : List Int} (hls : gLens rs [] = some ls) (hll : ls.length = rs.length) (h0 : 0 < rs.length) : pcsT ls rs 0 (lastI ls) = [rs.length - 1] := by
  have lb := lens_bound hls (i := rs.length - 1) (by omega)
  have e : lastI ls = ls.getD (rs.length - 1) 0 := by unfold lastI; rw [hll]
  unfold pcsT
  rw [if_pos (by rw [e]; omega), pcs_in (by omega) (by omega) (by rw [e]; omega) (Int.le_refl _) (by rw [e]; omega)]
/-- the print of the word -/
def printN (rs : List Fac) (b m : Int) : Int := (partMk b m rs (match gLens rs [] with | some ls => pcsT ls rs 0 (lastI ls) | none => [])).p
theorem printN_eq {rs : List Fac} {ls : List Int} (hls : gLens rs [] = some ls) (hll : ls.length = rs.length) {b m : Int} (hm : 1 ≤ m) (hb0 : 0 ≤ b) (hb : b < m) (h0 : 0 < rs.length) : printN rs b m = (prAll b m ls rs).getD (rs.length - 1) 0 := by
  unfold printN
  rw [hls]
  show (partMk b m rs (pcsT ls rs 0 (lastI ls))).p = _
  rw [pcs_whole hls hll h0]
  show (0 + 1 % m * ((mkAll b m rs).getD (rs.length - 1) Mk.nil).p) % m = _
  have h := pr_in (b := b) hls hm (k := rs.length - 1) (by omega)
  rw [(mk_pr hls hm hb0 hb _ (by omega)).1, Int.zero_add, emodL, Int.one_mul, emod_id h.1 h.2]
theorem printN_nil {ls : List Int} (hls : gLens [] [] = some ls) (b m : Int) : printN [] b m = 0 := by
  unfold printN
  rw [hls]
  rfl
end Go.Proofs.Ytgdbpkpaacbhhaa


/-
  Prints: what is told.
-/
namespace Go.Proofs.Ytgdbpkpaacbhhaa

def printpV (rs : List Fac) (i j b m : Int) : Value := match gOk rs with
  | none => tup2 0 1
  | some ls => if inB m 1 1000000000 = false then tup2 0 2 else if inB b 0 (m - 1) = false then tup2 0 2 else if inB i 0 j = false then tup2 0 2 else if lastI ls < j then tup2 0 2 else tup2 (partMk b m rs (pcsT ls rs i j)).p 0
def printV (rs : List Fac) (b m : Int) : Value := match gOk rs with
  | none => tup2 0 1
  | some ls => printpV rs 0 (lastI ls) b m
section
variable {rs : List Fac} {ls : List Int} {i j b m : Int}
theorem printpV0 (h : gOk rs = none) : printpV rs i j b m = tup2 0 1 := by unfold printpV; rw [h]
theorem printpV1 (h : gOk rs = some ls) (h1 : inB m 1 1000000000 = false) : printpV rs i j b m = tup2 0 2 := by
  unfold printpV; rw [h]; show (if _ then _ else _) = _; rw [if_pos h1]
theorem printpV2 (h : gOk rs = some ls) (h1 : inB m 1 1000000000 = true) (h2 : inB b 0 (m - 1) = false) : printpV rs i j b m = tup2 0 2 := by
  unfold printpV; rw [h]; show (if _ then _ else _) = _; rw [if_neg (by rw [h1]; decide), if_pos h2]
theorem printpV3 (h : gOk rs = some ls) (h1 : inB m 1 1000000000 = true) (h2 : inB b 0 (m - 1) = true) (h3 : inB i 0 j = false) : printpV rs i j b m = tup2 0 2 := by
  unfold printpV; rw [h]; show (if _ then _ else _) = _; rw [if_neg (by rw [h1]; decide), if_neg (by rw [h2]; decide), if_pos h3]
theorem printpV4 (h : gOk rs = some ls) (h1 : inB m 1 1000000000 = true) (h2 : inB b 0 (m - 1) = true) (h3 : inB i 0 j = true) (h4 : lastI ls < j) : printpV rs i j b m = tup2 0 2 := by
  unfold printpV; rw [h]; show (if _ then _ else _) = _; rw [if_neg (by rw [h1]; decide), if_neg (by rw [h2]; decide), if_neg (by rw [h3]; decide), if_pos h4]
theorem printpV5 (h : gOk rs = some ls) (h1 : inB m 1 1000000000 = true) (h2 : inB b 0 (m - 1) = true) (h3 : inB i 0 j = true) (h4 : ¬ lastI ls < j) : printpV rs i j b m = tup2 (partMk b m rs (pcsT ls rs i j)).p 0 := by
  unfold printpV; rw [h]; show (if _ then _ else _) = _; rw [if_neg (by rw [h1]; decide), if_neg (by rw [h2]; decide), if_neg (by rw [h3]; decide), if_neg h4]
end
theorem lastI_bP {rs : List Fac} {ls : List Int} (hls : gLens rs [] = some ls) (hl : ls.length = rs.length) : 0 ≤ lastI ls ∧ lastI ls ≤ 1000000000000000 := by
  unfold lastI
  by_cases h0 : rs.length = 0
  · rw [List.eq_nil_of_length_eq_zero (hl.trans h0)]; show (0 : Int) ≤ 0 ∧ (0 : Int) ≤ 1000000000000000; omega
  · have := lens_bound hls (i := ls.length - 1) (by omega)
    omega
theorem printpV_form (rs : List Fac) (i j b m : Int) : ∃ x k, printpV rs i j b m = .tuple #[.int .i64 x, .int .i64 k] := by
  unfold printpV tup2
  split
  · exact ⟨_, _, rfl⟩
  · split
    · exact ⟨_, _, rfl⟩
    split
    · exact ⟨_, _, rfl⟩
    split
    · exact ⟨_, _, rfl⟩
    split
    · exact ⟨_, _, rfl⟩
    · exact ⟨_, _, rfl⟩
theorem printV_form (rs : List Fac) (b m : Int) : ∃ x k, printV rs b m = .tuple #[.int .i64 x, .int .i64 k] := by
  unfold printV
  split
  · exact ⟨_, _, rfl⟩
  · exact printpV_form _ _ _ _ _
end Go.Proofs.Ytgdbpkpaacbhhaa


/-
  A part of a word, as the reference cuts it: the plain part.
-/
namespace Go.Proofs.Ytgdbpkpaacbhhaa

/-- the rules of which a part of the word of a rule is made -/
def cov (ls : List Int) (rs : List Fac) : Nat → Nat → Int → Int → List Nat
  | 0, _, _, _ => []
  | f + 1, r, i, j =>
    if j ≤ i then [] else if i = 0 ∧ j = ls.getD r 0 then [r] else
    match rs[r]? with
    | none => []
    | some x => cov ls rs f x.a.toNat i (min j (ls.getD x.a.toNat 0)) ++ cov ls rs f x.b.toNat (max (i - ls.getD x.a.toNat 0) 0) (j - ls.getD x.a.toNat 0)
section
variable {ls : List Int} {rs : List Fac}
theorem cov_no {f r : Nat} {i j : Int} (h : j ≤ i) : cov ls rs f r i j = [] := by
  cases f with
  | zero => rfl
  | succ f => rw [cov, if_pos h]
theorem cov_one {f r : Nat} {i j : Int} (hf : r < f) (h : ¬ j ≤ i) (h2 : i = 0 ∧ j = ls.getD r 0) : cov ls rs f r i j = [r] := by
  obtain ⟨g, rfl⟩ : ∃ g, f = g + 1 := ⟨f - 1, by omega⟩
  rw [cov, if_neg h, if_pos h2]
theorem cov_go {f r : Nat} {i j : Int} {x : Fac} (hf : r < f) (h : ¬ j ≤ i) (h2 : ¬ (i = 0 ∧ j = ls.getD r 0)) (hx : rs[r]? = some x) :
    cov ls rs f r i j = cov ls rs (f - 1) x.a.toNat i (min j (ls.getD x.a.toNat 0)) ++ cov ls rs (f - 1) x.b.toNat (max (i - ls.getD x.a.toNat 0) 0) (j - ls.getD x.a.toNat 0) := by
  obtain ⟨g, rfl⟩ : ∃ g, f = g + 1 := ⟨f - 1, by omega⟩
  rw [cov, if_neg h, if_neg h2, hx]
  rfl
theorem max_eq_l {a b : Int} (h : b ≤ a) : max a b = a := by omega
theorem cov_pcs (hls : gLens rs [] = some ls) {i j : Int} (hij : i < j) : ∀ (r f : Nat) (a : Int), r < f → r < rs.length → pcs ls rs i j f r a = cov ls rs f r (max (i - a) 0) (min (j - a) (ls.getD r 0)) := by
  intro r
  induction r using Nat.strongRecOn with
  | ind r ih =>
    intro f a hf hr
    have lb := lens_bound hls hr
    by_cases h1 : a + ls.getD r 0 ≤ i
    · rw [pcs_out1 h1, cov_no (by omega)]
    by_cases h2 : j ≤ a
    · rw [pcs_out2 h2, cov_no (by omega)]
    by_cases h3 : i ≤ a ∧ a + ls.getD r 0 ≤ j
    · rw [pcs_in hf h1 h2 h3.1 h3.2, cov_one hf (by omega) (by omega)]
    have gx : rs[r]? = some (rs[r]'hr) := List.getElem?_eq_getElem _
    rcases wf_of hls r _ gx with ⟨h0, ha0, ha1, hb0, hb1⟩ | ⟨cc, _, hxl, _⟩
    · have lp := lens_pair hls gx h0
      have la := lens_bound hls (i := (rs[r]'hr).a.toNat) (by omega)
      have lb2 := lens_bound hls (i := (rs[r]'hr).b.toNat) (by omega)
      rw [pcs_go hf h1 h2 h3 gx, cov_go hf (by omega) (by omega) gx, ih (rs[r]'hr).a.toNat (by omega) (f - 1) a (by omega) (by omega), ih (rs[r]'hr).b.toNat (by omega) (f - 1) _ (by omega) (by omega)]
      congr 1
      · congr 1; omega
      · congr 1 <;> omega
    · exfalso
      have h0 : (rs[r]'hr).l.size ≠ 0 := by rw [hxl]; show (1 : Nat) ≠ 0; omega
      have := lens_let hls gx h0
      omega
/-- the sum of the lengths of some rules -/
def sumC (ls : List Int) : List Nat → Int
  | [] => 0
  | k :: t => ls.getD k 0 + sumC ls t
theorem sumC_app (xs ys : List Nat) : sumC ls (xs ++ ys) = sumC ls xs + sumC ls ys := by
  induction xs with
  | nil => simp [sumC]
  | cons x r ih => simp [sumC, ih]; omega
/-- what a cover is: earlier rules, not many, as long together as the part -/
theorem cov_ok (hls : gLens rs [] = some ls) : ∀ (r f : Nat) (i j : Int), r < f → r < rs.length → 0 ≤ i → j ≤ ls.getD r 0 →
    (∀ k ∈ cov ls rs f r i j, k ≤ r) ∧ (cov ls rs f r i j).length ≤ 2 * (r + 1) ∧ (i = 0 → (cov ls rs f r i j).length ≤ r + 1) ∧ (j = ls.getD r 0 → (cov ls rs f r i j).length ≤ r + 1) ∧ (i ≤ j → sumC ls (cov ls rs f r i j) = j - i) := by
  intro r
  induction r using Nat.strongRecOn with
  | ind r ih =>
    intro f i j hf hr hi hj
    by_cases h1 : j ≤ i
    · rw [cov_no h1]
      refine ⟨by simp, by simp, by simp, by simp, fun h => ?_⟩
      show (0 : Int) = _; omega
    by_cases h2 : i = 0 ∧ j = ls.getD r 0
    · rw [cov_one hf h1 h2]
      refine ⟨by simp, by simp; omega, by simp, by simp, fun h => ?_⟩
      show ls.getD r 0 + 0 = _; omega
    have gx : rs[r]? = some (rs[r]'hr) := List.getElem?_eq_getElem _
    rcases wf_of hls r _ gx with ⟨h0, ha0, ha1, hb0, hb1⟩ | ⟨cc, _, hxl, _⟩
    · have lp := lens_pair hls gx h0
      have la := lens_bound hls (i := (rs[r]'hr).a.toNat) (by omega)
      have lb2 := lens_bound hls (i := (rs[r]'hr).b.toNat) (by omega)
      rw [cov_go hf h1 h2 gx]
      have A := ih (rs[r]'hr).a.toNat (by omega) (f - 1) i (min j (ls.getD (rs[r]'hr).a.toNat 0)) (by omega) (by omega) hi (by omega)
      have B := ih (rs[r]'hr).b.toNat (by omega) (f - 1) (max (i - ls.getD (rs[r]'hr).a.toNat 0) 0) (j - ls.getD (rs[r]'hr).a.toNat 0) (by omega) (by omega) (by omega) (by omega)
      have A0 : min j (ls.getD (rs[r]'hr).a.toNat 0) ≤ i → (cov ls rs (f - 1) (rs[r]'hr).a.toNat i (min j (ls.getD (rs[r]'hr).a.toNat 0))).length = 0 ∧ sumC ls (cov ls rs (f - 1) (rs[r]'hr).a.toNat i (min j (ls.getD (rs[r]'hr).a.toNat 0))) = 0 := fun h => by rw [cov_no h]; exact ⟨rfl, rfl⟩
      have A1 : i = 0 → ls.getD (rs[r]'hr).a.toNat 0 ≤ j → (cov ls rs (f - 1) (rs[r]'hr).a.toNat i (min j (ls.getD (rs[r]'hr).a.toNat 0))).length = 1 := fun h h' => by rw [cov_one (by omega) (by omega) (by omega)]; rfl
      have B0 : j - ls.getD (rs[r]'hr).a.toNat 0 ≤ max (i - ls.getD (rs[r]'hr).a.toNat 0) 0 → (cov ls rs (f - 1) (rs[r]'hr).b.toNat (max (i - ls.getD (rs[r]'hr).a.toNat 0) 0) (j - ls.getD (rs[r]'hr).a.toNat 0)).length = 0 ∧ sumC ls (cov ls rs (f - 1) (rs[r]'hr).b.toNat (max (i - ls.getD (rs[r]'hr).a.toNat 0) 0) (j - ls.getD (rs[r]'hr).a.toNat 0)) = 0 := fun h => by rw [cov_no h]; exact ⟨rfl, rfl⟩
      have B1 : j = ls.getD r 0 → i ≤ ls.getD (rs[r]'hr).a.toNat 0 → (cov ls rs (f - 1) (rs[r]'hr).b.toNat (max (i - ls.getD (rs[r]'hr).a.toNat 0) 0) (j - ls.getD (rs[r]'hr).a.toNat 0)).length = 1 := fun h h' => by rw [cov_one (by omega) (by omega) (by omega)]; rfl
      rw [sumC_app]
      generalize hX : cov ls rs (f - 1) (rs[r]'hr).a.toNat i (min j (ls.getD (rs[r]'hr).a.toNat 0)) = X at *
      generalize hY : cov ls rs (f - 1) (rs[r]'hr).b.toNat (max (i - ls.getD (rs[r]'hr).a.toNat 0) 0) (j - ls.getD (rs[r]'hr).a.toNat 0) = Y at *
      obtain ⟨a1, a2, a3, a4, a5⟩ := A
      obtain ⟨b1, b2, b3, b4, b5⟩ := B
      have hxl : X.length ≤ 2 * r := by omega
      have hyl : Y.length ≤ 2 * r := by omega
      refine ⟨fun k hk => ?_, ?_, fun h => ?_, fun h => ?_, fun h => ?_⟩
      · rcases List.mem_append.1 hk with hk | hk
        · have := a1 k hk; omega
        · have := b1 k hk; omega
      · rw [List.length_append]
        by_cases q1 : j ≤ ls.getD (rs[r]'hr).a.toNat 0
        · have := B0 (by omega); omega
        by_cases q2 : ls.getD (rs[r]'hr).a.toNat 0 ≤ i
        · have := A0 (by omega); omega
        have := a4 (by omega)
        have := b3 (by omega)
        omega
      · rw [List.length_append]
        by_cases q1 : j ≤ ls.getD (rs[r]'hr).a.toNat 0
        · have := B0 (by omega); have := a3 h; omega
        · have := A1 h (by omega); have := b3 (by omega); omega
      · rw [List.length_append]
        by_cases q2 : ls.getD (rs[r]'hr).a.toNat 0 < i
        · have := A0 (by omega); have := b4 (by omega); omega
        · have := B1 h (by omega); have := a4 (by omega); omega
      · by_cases q1 : j ≤ ls.getD (rs[r]'hr).a.toNat 0
        · have := B0 (by omega); have := a5 (by omega); omega
        by_cases q2 : ls.getD (rs[r]'hr).a.toNat 0 ≤ i
        · have := A0 (by omega); have := b5 (by omega); omega
        have := a5 (by omega); have := b5 (by omega); omega
    · exfalso
      have h0 : (rs[r]'hr).l.size ≠ 0 := by rw [hxl]; show (1 : Nat) ≠ 0; omega
      have := lens_let hls gx h0
      omega
/-- the cover of a part of the word -/
def covT (ls : List Int) (rs : List Fac) (i j : Int) : List Nat := cov ls rs rs.length (rs.length - 1) i j
theorem covT_pcs (hls : gLens rs [] = some ls) (hll : ls.length = rs.length) {i j : Int} (hi : 0 ≤ i) (hij : i < j) (hj : j ≤ lastI ls) : pcsT ls rs i j = covT ls rs i j := by
  have hp : 0 < rs.length := by
    rcases Nat.eq_zero_or_pos rs.length with h | h
    · have : lastI ls = 0 := by unfold lastI; rw [List.eq_nil_of_length_eq_zero (hll.trans h)]; rfl
      omega
    · exact h
  have e : lastI ls = ls.getD (rs.length - 1) 0 := by unfold lastI; rw [hll]
  unfold pcsT covT
  rw [if_pos (by omega), cov_pcs hls hij _ _ _ (by omega) (by omega)]
  congr 1 <;> omega
theorem covT_ok (hls : gLens rs [] = some ls) (hll : ls.length = rs.length) {i j : Int} (hi : 0 ≤ i) (hij : i < j) (hj : j ≤ lastI ls) :
    0 < rs.length ∧ (∀ k ∈ covT ls rs i j, k < rs.length) ∧ (covT ls rs i j).length ≤ 2 * rs.length ∧ sumC ls (covT ls rs i j) = j - i ∧ 0 < (covT ls rs i j).length := by
  have hp : 0 < rs.length := by
    rcases Nat.eq_zero_or_pos rs.length with h | h
    · have : lastI ls = 0 := by unfold lastI; rw [List.eq_nil_of_length_eq_zero (hll.trans h)]; rfl
      omega
    · exact h
  have e : lastI ls = ls.getD (rs.length - 1) 0 := by unfold lastI; rw [hll]
  obtain ⟨h1, h2, _, _, h5⟩ := cov_ok hls (rs.length - 1) rs.length i j (by omega) (by omega) hi (by omega)
  have h5' := h5 (by omega)
  refine ⟨hp, fun k hk => by have := h1 k hk; omega, by unfold covT; omega, h5', ?_⟩
  rcases hc : covT ls rs i j with _ | ⟨x, t⟩
  · unfold covT at hc; rw [hc] at h5'; have : sumC ls [] = 0 := rfl; omega
  · simp
end
/-- pairs that put a cover together, behind n rules -/
def chain (n last : Nat) : List Nat → List Fac
  | [] => []
  | k :: t => ⟨⟨#[]⟩, (last : Int), (k : Int)⟩ :: chain (n + 1) n t
theorem chain_len : ∀ (t : List Nat) (n last : Nat), (chain n last t).length = t.length
  | [], _, _ => rfl
  | _ :: t, n, _ => by show (chain (n + 1) n t).length + 1 = _; rw [chain_len t]; rfl
/-- the rules of a part -/
def cutL (rs : List Fac) : List Nat → List Fac
  | [] => []
  | [c] => rs.take (c + 1)
  | c :: k :: t => rs ++ chain rs.length c (k :: t)
theorem gLens_app : ∀ (xs ys : List Fac) (out : List Int), gLens (xs ++ ys) out = (gLens xs out).bind (gLens ys)
  | [], _, _ => rfl
  | x :: xs, ys, out => by
    show (gStep out x).bind (fun n => gLens (xs ++ ys) (out ++ [n])) = ((gStep out x).bind fun n => gLens xs (out ++ [n])).bind (gLens ys)
    rcases gStep out x with _ | n
    · rfl
    · exact gLens_app xs ys _
theorem gLens_take {rs : List Fac} {ls : List Int} (h : gLens rs [] = some ls) (k : Nat) : ∃ ls', gLens (rs.take k) [] = some ls' := by
  have e := gLens_app (rs.take k) (rs.drop k) []
  rw [List.take_append_drop, h] at e
  rcases hg : gLens (rs.take k) [] with _ | l
  · rw [hg] at e; cases e
  · exact ⟨l, rfl⟩
theorem gLens_chain {M : Int} (hM : M ≤ 1000000000000000) : ∀ (t : List Nat) (n last : Nat) (out : List Int), out.length = n → last < n → (∀ k ∈ t, k < n) → (∀ x ∈ out, 1 ≤ x) → out.getD last 0 + sumC out t ≤ M → ∃ ls', gLens (chain n last t) out = some ls'
  | [], _, _, out, _, _, _, _, _ => ⟨out, rfl⟩
  | k :: t, n, last, out, hn, hl, hk, ho, hs => by
    have hkn := hk k (by simp)
    have p1 : ∀ i, i < n → 1 ≤ out.getD i 0 := fun i hi => ho _ (by rw [List.getD_eq_getElem?_getD, List.getElem?_eq_getElem (by omega)]; simp)
    have pt : ∀ (l : List Nat), (∀ k ∈ l, k < n) → 0 ≤ sumC out l := fun l => by
      induction l with
      | nil => intro _; exact Int.le_refl _
      | cons a r ih =>
        intro h
        have := ih (fun k hk => h k (by simp [hk]))
        have := p1 a (h a (by simp))
        show 0 ≤ out.getD a 0 + sumC out r
        omega
    have ht := pt t (fun k hk' => hk k (by simp [hk']))
    have hs' : out.getD last 0 + (out.getD k 0 + sumC out t) ≤ M := hs
    have hg : gStep out ⟨⟨#[]⟩, (last : Int), (k : Int)⟩ = some (out.getD last 0 + out.getD k 0) := by
      unfold gStep
      rw [if_pos (by rfl), if_pos ?_]
      · simp only [Int.toNat_natCast]
      · simp only [Int.toNat_natCast]; omega
    have hsum : ∀ (l : List Nat), (∀ k ∈ l, k < n) → sumC (out ++ [out.getD last 0 + out.getD k 0]) l = sumC out l := fun l => by
      induction l with
      | nil => intro _; rfl
      | cons a r ih =>
        intro h
        show (out ++ _).getD a 0 + sumC (out ++ _) r = out.getD a 0 + sumC out r
        rw [ih (fun k hk => h k (by simp [hk])), List.getD_eq_getElem?_getD, List.getElem?_append_left (by have := h a (by simp); omega), ← List.getD_eq_getElem?_getD]
    obtain ⟨ls', h⟩ := gLens_chain hM t (n + 1) n (out ++ [out.getD last 0 + out.getD k 0]) (by simp [hn]) (by omega) (fun k hk' => by have := hk k (by simp [hk']); omega)
      (fun x hx => by
        rcases List.mem_append.1 hx with hx | hx
        · exact ho x hx
        · have := p1 last hl; have := p1 k hkn
          rw [List.mem_singleton.1 hx]; omega)
      (by
        have e0 : (out ++ [out.getD last 0 + out.getD k 0]).getD n 0 = out.getD last 0 + out.getD k 0 := by
          rw [List.getD_eq_getElem?_getD, List.getElem?_append_right (by omega), hn, Nat.sub_self]; rfl
        rw [hsum t (fun k hk' => hk k (by simp [hk'])), e0]
        omega)
    refine ⟨ls', ?_⟩
    show (gStep out _).bind (fun n => gLens (chain _ _ t) (out ++ [n])) = _
    rw [hg]
    exact h
theorem cut_lens {rs : List Fac} {ls : List Int} (hls : gLens rs [] = some ls) (hll : ls.length = rs.length) {i j : Int} (hi : 0 ≤ i) (hij : i < j) (hj : j ≤ lastI ls) (hj2 : j ≤ 1000000000000000) : ∃ ls', gLens (cutL rs (covT ls rs i j)) [] = some ls' := by
  obtain ⟨hp, h1, h2, h3, h4⟩ := covT_ok hls hll hi hij hj
  rcases hc : covT ls rs i j with _ | ⟨c, _ | ⟨k, t⟩⟩
  · exact ⟨[], rfl⟩
  · exact gLens_take hls _
  · rw [hc] at h1 h3
    show ∃ ls', gLens (rs ++ chain rs.length c (k :: t)) [] = some ls'
    rw [gLens_app, hls]
    exact gLens_chain (M := 1000000000000000) (Int.le_refl _) (k :: t) rs.length c ls hll (h1 c (by simp)) (fun x hx => h1 x (by simp only [List.mem_cons] at hx ⊢; exact .inr hx)) (fun x hx => by
      obtain ⟨a, ha, he⟩ := List.getElem_of_mem hx
      have := (lens_bound hls (i := a) (by omega)).1
      rw [List.getD_eq_getElem?_getD, List.getElem?_eq_getElem ha] at this
      simpa [he] using this) (by
        have h3' : ls.getD c 0 + sumC ls (k :: t) = j - i := h3
        omega)
theorem cut_len {rs : List Fac} : ∀ (l : List Nat), (∀ k ∈ l, k < rs.length) → (cutL rs l).length ≤ rs.length + l.length
  | [], _ => by simp [cutL]
  | [c], _ => by show (rs.take (c + 1)).length ≤ _; simp; omega
  | c :: k :: t, _ => by show (rs ++ chain rs.length c (k :: t)).length ≤ _; rw [List.length_append, chain_len]; simp
section
variable {α : Type} (d : α) (F : Nat → α) (G : α → α → Fac → α)
/-- what is made of the pairs of a chain -/
theorem chain_fold (hG : ∀ x y r r', G x y r = G x y r') : ∀ (t : List Nat) (n last : Nat) (out : List α), out.length = n → last < n → (∀ k ∈ t, k < n) →
    (foldG d F G (chain n last t) out).getD (if t = [] then last else n + t.length - 1) d = t.foldl (fun s k => G s (out.getD k d) default) (out.getD last d)
  | [], _, _, _, _, _, _ => rfl
  | k :: t, n, last, out, hn, hl, hk => by
    have hkn := hk k (by simp)
    show (foldG d F G (chain (n + 1) n t) (out ++ [fStep d F G out ⟨⟨#[]⟩, (last : Int), (k : Int)⟩])).getD (if k :: t = [] then last else n + (t.length + 1) - 1) d = t.foldl (fun s k => G s (out.getD k d) default) (G (out.getD last d) (out.getD k d) default)
    have hf : fStep d F G out ⟨⟨#[]⟩, (last : Int), (k : Int)⟩ = G (out.getD last d) (out.getD k d) default := by
      unfold fStep
      rw [if_pos (by rfl)]
      simp only [Int.toNat_natCast]
      exact hG _ _ _ _
    rw [hf]
    have h := chain_fold hG t (n + 1) n (out ++ [G (out.getD last d) (out.getD k d) default]) (by simp [hn]) (by omega) (fun k hk' => by have := hk k (by simp [hk']); omega)
    rw [if_neg (by simp), show n + (t.length + 1) - 1 = if t = [] then n else n + 1 + t.length - 1 from ?_, h]
    · have e0 : (out ++ [G (out.getD last d) (out.getD k d) default]).getD n d = G (out.getD last d) (out.getD k d) default := by
        rw [List.getD_eq_getElem?_getD, List.getElem?_append_right (by omega), hn]; simp
      rw [e0]
      have : ∀ (l : List Nat) (s : α), (∀ k ∈ l, k < n) → l.foldl (fun s k' => G s ((out ++ [G (out.getD last d) (out.getD k d) default]).getD k' d) default) s = l.foldl (fun s k => G s (out.getD k d) default) s := fun l => by
        induction l with
        | nil => intro _ _; rfl
        | cons a r ih =>
          intro s h
          rw [List.foldl_cons, List.foldl_cons, ih _ (fun k hk => h k (by simp [hk]))]
          congr 2
          rw [List.getD_eq_getElem?_getD, List.getElem?_append_left (by have := h a (by simp); omega), ← List.getD_eq_getElem?_getD]
      exact this t _ (fun k hk' => hk k (by simp [hk']))
    · split
      · rename_i h; rw [h]; simp
      · omega
/-- what is made of the last rule of a part -/
theorem cut_full (hG : ∀ x y r r', G x y r = G x y r') {rs : List Fac} {c : Nat} {t : List Nat} (hk : ∀ k ∈ c :: t, k < rs.length) :
    (full d F G (cutL rs (c :: t))).getD ((cutL rs (c :: t)).length - 1) d = t.foldl (fun s k => G s ((full d F G rs).getD k d) default) ((full d F G rs).getD c d) := by
  have hc := hk c (by simp)
  rcases t with _ | ⟨k, t⟩
  · show (full d F G (rs.take (c + 1))).getD ((rs.take (c + 1)).length - 1) d = _
    rw [List.length_take, show min (c + 1) rs.length - 1 = c by omega]
    exact outs_full d F G (k := c + 1) (by omega) (by omega)
  · show (full d F G (rs ++ chain rs.length c (k :: t))).getD ((rs ++ chain rs.length c (k :: t)).length - 1) d = _
    unfold full
    rw [foldG_app, List.length_append, chain_len]
    have h := chain_fold d F G hG (k :: t) rs.length c (foldG d F G rs []) (by rw [foldG_len]; simp) hc (fun x hx => hk x (by simp only [List.mem_cons] at hx ⊢; exact .inr hx))
    rw [if_neg (by simp)] at h
    exact h
end
end Go.Proofs.Ytgdbpkpaacbhhaa


/-
  The word of a rule, and what a fold over rules says of it.
-/
namespace Go.Proofs.Ytgdbpkpaacbhhaa

def wdF (k : Nat) : List Nat := [k]
def wdG (a b : List Nat) (_ : Fac) : List Nat := a ++ b
/-- the words of all rules, as numbers of letters -/
def wds (rs : List Fac) : List (List Nat) := full [] wdF wdG rs
/-- the word of a grammar -/
def wdN (rs : List Fac) : List Nat := if rs = [] then [] else (wds rs).getD (rs.length - 1) []
theorem wds_pos {rs : List Fac} (hwf : WF rs) {k : Nat} (hk : k < rs.length) : (wds rs).getD k [] ≠ [] := by
  refine full_ind (rs := rs) [] wdF wdG hwf (fun _ u => u ≠ []) (fun k r _ _ => by simp [wdF]) (fun k r a b _ _ _ _ _ _ h1 _ => ?_) k hk
  intro e
  simp only [wdG, List.append_eq_nil_iff] at e
  exact h1 e.1
theorem wds_let {rs : List Fac} (hwf : WF rs) {k : Nat} (hk : k < rs.length) : ∀ x ∈ (wds rs).getD k [], x < 4 := by
  refine full_ind (rs := rs) [] wdF wdG hwf (fun _ u => ∀ x ∈ u, x < 4) (fun k r _ h => by
    intro x hx
    simp only [wdF, List.mem_singleton] at hx
    subst hx
    exact letN_lt h) (fun k r a b _ _ _ _ _ _ h1 h2 => ?_) k hk
  intro x hx
  rcases List.mem_append.1 hx with h | h
  · exact h1 x h
  · exact h2 x h
section
variable {α : Type} {d : α} {F : Nat → α} {G : α → α → Fac → α}
/-- a fold that is a function of the word -/
theorem full_hom {rs : List Fac} (hwf : WF rs) (h : List Nat → α) (hF : ∀ k, k < 4 → F k = h [k]) (hG : ∀ u v r, u ≠ [] → v ≠ [] → (∀ x ∈ u, x < 4) → (∀ x ∈ v, x < 4) → G (h u) (h v) r = h (u ++ v)) :
    ∀ k, k < rs.length → (full d F G rs).getD k d = h ((wds rs).getD k []) := by
  intro k
  induction k using Nat.strongRecOn with
  | ind k ih =>
    intro hk
    have hr : rs[k]? = some rs[k] := List.getElem?_eq_getElem hk
    rcases hwf k _ hr with ⟨h0, ha0, ha1, hb0, hb1⟩ | ⟨c, hc, hl, _, _⟩
    · have e1 := full_pair (d := d) (F := F) (G := G) hwf hr h0
      have e2 := full_pair (d := []) (F := wdF) (G := wdG) hwf hr h0
      have ia := ih rs[k].a.toNat (by omega) (by omega)
      have ib := ih rs[k].b.toNat (by omega) (by omega)
      rw [e1, ia, ib]
      unfold wds at *
      rw [e2]
      exact hG _ _ _ (wds_pos hwf (by omega)) (wds_pos hwf (by omega)) (wds_let hwf (by omega)) (wds_let hwf (by omega))
    · have hz : rs[k].l.size ≠ 0 := by rw [hl]; show (1 : Nat) ≠ 0; omega
      have e1 := full_let (d := d) (F := F) (G := G) hr hz
      have e2 := full_let (d := []) (F := wdF) (G := wdG) hr hz
      have h4 : letN rs[k].l < 4 := by
        rw [hl, letN_one]
        have := letB_num hc
        omega
      rw [e1, hF _ h4]
      unfold wds
      rw [e2]; rfl
end
theorem lens_word {rs : List Fac} {ls : List Int} (h : gLens rs [] = some ls) {k : Nat} (hk : k < rs.length) : ls.getD k 0 = ((wds rs).getD k []).length := by
  have e := gLens_fold rs [] ls h
  have := full_hom (d := (0 : Int)) (F := lenF) (G := lenG) (wf_of h) (fun u => (u.length : Int)) (fun k _ => rfl) (fun u v r _ _ _ _ => by simp [lenG]) k hk
  rw [e]; exact this
theorem last_word {rs : List Fac} {ls : List Int} (h : gLens rs [] = some ls) : lastI ls = ((wdN rs).length : Int) := by
  have hl := gLens_len rs [] ls h
  simp only [List.length_nil, Nat.zero_add] at hl
  unfold wdN
  split
  · rename_i h0; subst h0
    obtain rfl : ls = [] := List.eq_nil_of_length_eq_zero hl
    rfl
  · rename_i h0
    have : 0 < rs.length := List.length_pos_iff.2 h0
    unfold lastI
    rw [hl]
    exact lens_word h (by omega)
/-- a word as a text -/
def txB (u : List Nat) : List UInt8 := u.map fun k => UInt8.ofNat (97 + k)
def tx (u : List Nat) : ByteArray := ⟨(txB u).toArray⟩
theorem tx_size (u : List Nat) : (tx u).size = u.length := by simp [tx, txB, ByteArray.size]
theorem tx_toList (u : List Nat) : (tx u).data.toList = txB u := rfl
theorem tx_app (u v : List Nat) : tx (u ++ v) = tx u ++ tx v := by
  apply ByteArray.ext
  apply Array.ext'
  rw [ByteArray.data_append, Array.toList_append]
  simp [tx, txB]
theorem tx_let {u : List Nat} (h : ∀ x ∈ u, x < 4) : (tx u).data.toList.all letB = true := by
  rw [tx_toList, txB, List.all_map, List.all_eq_true]
  intro x hx
  have := h x hx
  simp only [Function.comp, letB]
  have e : (UInt8.ofNat (97 + x)).toNat = 97 + x := by rw [UInt8.toNat_ofNat']; omega
  simp [e]; omega
theorem wdN_let {rs : List Fac} (hwf : WF rs) : ∀ x ∈ wdN rs, x < 4 := by
  unfold wdN
  split
  · simp
  · rename_i h0
    have : 0 < rs.length := List.length_pos_iff.2 h0
    exact wds_let hwf (by omega)
end Go.Proofs.Ytgdbpkpaacbhhaa


/-
  The grammar of a plain word: the plain part.
-/
namespace Go.Proofs.Ytgdbpkpaacbhhaa

/-- the letters that a word has, in order -/
def ksP (w : List UInt8) : List UInt8 := [97, 98, 99, 100].filter (fun c => decide (c ∈ w))
def ruleC (c : UInt8) : Fac := ⟨⟨#[c]⟩, 0, 0⟩
def lettersP (w : List UInt8) : List Fac := (ksP w).map ruleC
/-- the place of a letter's rule -/
def atP (w : List UInt8) (c : UInt8) : Int := (((ksP w).idxOf c : Nat) : Int)
/-- the rules for the letters from the second on -/
def pairsP (w : List UInt8) : List UInt8 → Int → Nat → List Fac
  | [], _, _ => []
  | c :: cs, before, len => ⟨⟨#[]⟩, before, atP w c⟩ :: pairsP w cs (len : Int) (len + 1)
def plainL (w : List UInt8) : List Fac :=
  match w with
  | [] => []
  | c :: cs => lettersP w ++ pairsP w cs (atP w c) (ksP w).length
theorem pairsP_len (w : List UInt8) : ∀ (cs : List UInt8) (b : Int) (n : Nat), (pairsP w cs b n).length = cs.length
  | [], _, _ => rfl
  | _ :: cs, b, n => by simp [pairsP, pairsP_len w cs]
theorem ksP_len (w : List UInt8) : (ksP w).length ≤ 4 := by
  unfold ksP; exact Nat.le_trans (List.length_filter_le _ _) (by simp)
theorem plainL_len (w : List UInt8) : (plainL w).length ≤ w.length + 4 := by
  unfold plainL
  split
  · simp
  · rename_i c cs
    rw [List.length_append, pairsP_len]
    have := ksP_len (c :: cs)
    simp only [lettersP, List.length_map, List.length_cons]; omega
/-- the place of a rule in a list, or -1 -/
def ixR (f : Fac) : List Fac → Int → Int
  | [], _ => -1
  | x :: r, i => if f = x then i else ixR f r (i + 1)
theorem ixR_idx (f : Fac) : ∀ (xs : List Fac) (i : Int), f ∈ xs → ixR f xs i = i + (xs.idxOf f : Nat)
  | [], _, h => by simp at h
  | x :: r, i, h => by
    unfold ixR
    by_cases hx : f = x
    · subst hx; simp
    · have hx' : (x == f) = false := by simp; exact fun e => hx e.symm
      rw [if_neg hx, ixR_idx f r (i + 1) (by simpa [hx] using h), List.idxOf_cons, hx']
      simp; omega
theorem ruleC_inj {a b : UInt8} : ruleC a = ruleC b ↔ a = b := by simp [ruleC]
theorem idx_map (c : UInt8) : ∀ ks : List UInt8, (ks.map ruleC).idxOf (ruleC c) = ks.idxOf c
  | [] => rfl
  | k :: ks => by
    rw [List.map_cons, List.idxOf_cons, List.idxOf_cons, idx_map c ks]
    by_cases h : k = c
    · simp [h]
    · have h1 : (k == c) = false := by simpa using h
      have h2 : (ruleC k == ruleC c) = false := by simpa [ruleC_inj] using h
      rw [h1, h2]
theorem mem_ks {w : List UInt8} {c : UInt8} (hc : c ∈ w) (hl : letB c = true) : c ∈ ksP w := by
  unfold ksP
  rw [List.mem_filter]
  refine ⟨?_, by simpa using hc⟩
  have h : (97 : Int) ≤ c.toNat ∧ (c.toNat : Int) ≤ 100 := by simpa [letB] using hl
  have h4 : c.toNat = 97 ∨ c.toNat = 98 ∨ c.toNat = 99 ∨ c.toNat = 100 := by omega
  simp only [List.mem_cons, List.not_mem_nil, or_false, ← UInt8.toNat_inj]
  exact h4
theorem atP_ix {w : List UInt8} {c : UInt8} (hc : c ∈ w) (hl : letB c = true) : ixR (ruleC c) (lettersP w) 0 = atP w c := by
  have hm : ruleC c ∈ lettersP w := List.mem_map.2 ⟨c, mem_ks hc hl, rfl⟩
  rw [ixR_idx _ _ _ hm]
  unfold lettersP atP
  rw [idx_map]; simp
theorem atP_lt {w : List UInt8} {c : UInt8} (hc : c ∈ w) (hl : letB c = true) : 0 ≤ atP w c ∧ atP w c < ((ksP w).length : Int) := by
  have := List.idxOf_lt_length_of_mem (mem_ks hc hl)
  unfold atP; omega
end Go.Proofs.Ytgdbpkpaacbhhaa


/-
  A grammar trimmed: the plain part.
-/
namespace Go.Proofs.Ytgdbpkpaacbhhaa

/-- a rule with the numbers that stand for its parts -/
def trR (same : List Int) (r : Fac) : Fac := if r.l.size = 0 then ⟨⟨#[]⟩, same.getD r.a.toNat 0, same.getD r.b.toNat 0⟩ else r
/-- the rules, told by the first equal ones; the first equal one of each rule -/
def trK : List Fac → List Fac → List Int → List Fac × List Int
  | [], kept, same => (kept, same)
  | r :: rs, kept, same => trK rs (kept ++ [trR same r]) (same ++ [((kept.idxOf (trR same r) : Nat) : Int)])
/-- which rules the last one is made of -/
def useStep (kept : List Fac) (i : Nat) (u : List Bool) : List Bool := if u.getD i false = true ∧ (kept.getD i default).l.size = 0 then (u.set (kept.getD i default).a.toNat true).set (kept.getD i default).b.toNat true else u
def useT (kept : List Fac) : Nat → List Bool → List Bool
  | 0, u => u
  | i + 1, u => useT kept i (useStep kept i u)
def use0 (n : Nat) (same : List Int) : List Bool := (List.replicate n false).set (same.getD (n - 1) 0).toNat true
/-- the rules that are left -/
def outT (used : List Bool) : Nat → List Fac → List Fac → List Int → List Fac
  | _, [], out, _ => out
  | i, r :: ks, out, at_ => if used.getD i false = true then outT used (i + 1) ks (out ++ [trR at_ r]) (at_.set i (out.length : Int)) else outT used (i + 1) ks out at_
def trimL (rs : List Fac) : List Fac :=
  if rs.length = 0 then [] else outT (useT (trK rs [] []).1 rs.length (use0 rs.length (trK rs [] []).2)) 0 (trK rs [] []).1 [] (List.replicate rs.length 0)

/-- what holds of the rules that are told by the first equal ones -/
structure TrI (kept : List Fac) (same : List Int) : Prop where
  len : same.length = kept.length
  s : ∀ j, j < kept.length → 0 ≤ same.getD j 0 ∧ same.getD j 0 ≤ (j : Int)
  k : ∀ (j : Nat) (r : Fac), kept[j]? = some r → (r.l.size = 0 ∧ 0 ≤ r.a ∧ r.a < (j : Int) ∧ 0 ≤ r.b ∧ r.b < (j : Int)) ∨ (∃ c, letB c = true ∧ r.l = ⟨#[c]⟩ ∧ r.a = 0 ∧ r.b = 0)
theorem TrI.nil : TrI [] [] := ⟨rfl, fun j h => absurd h (by simp), fun j r h => by simp at h⟩
theorem TrI.step {rs kept : List Fac} {same : List Int} (h : TrI kept same) (hwf : WF rs) {r : Fac} (hr : rs[kept.length]? = some r) : TrI (kept ++ [trR same r]) (same ++ [((kept.idxOf (trR same r) : Nat) : Int)]) := by
  have hl := h.len
  refine ⟨by simp [hl], fun j hj => ?_, fun j x hx => ?_⟩
  · simp only [List.length_append, List.length_singleton] at hj
    by_cases e : j < kept.length
    · rw [List.getD_eq_getElem?_getD, List.getElem?_append_left (by omega), ← List.getD_eq_getElem?_getD]; exact h.s j e
    · obtain rfl : j = kept.length := by omega
      rw [List.getD_eq_getElem?_getD, List.getElem?_append_right (by omega), hl, Nat.sub_self]
      simp only [List.getElem?_cons_zero, Option.getD_some]
      have := List.idxOf_le_length (a := trR same r) (l := kept)
      omega
  · by_cases e : j < kept.length
    · rw [List.getElem?_append_left e] at hx; exact h.k j x hx
    · have hj2 := (List.getElem?_eq_some_iff.1 hx).1
      simp only [List.length_append, List.length_singleton] at hj2
      obtain rfl : j = kept.length := by omega
      rw [List.getElem?_append_right (Nat.le_refl _), Nat.sub_self] at hx
      obtain rfl : trR same r = x := by simpa using hx
      rcases hwf _ r hr with ⟨h0, a0, a1, b0, b1⟩ | ⟨c, hc, hxl, ha, hb⟩
      · left
        unfold trR
        rw [if_pos h0]
        have s1 := h.s r.a.toNat (by omega)
        have s2 := h.s r.b.toNat (by omega)
        exact ⟨rfl, s1.1, by simp only; omega, s2.1, by simp only; omega⟩
      · right
        have h0 : r.l.size ≠ 0 := by rw [hxl]; show (1 : Nat) ≠ 0; omega
        unfold trR
        rw [if_neg h0]
        exact ⟨c, hc, hxl, ha, hb⟩
/-- the rules told, step by step -/
theorem trK_take (rs : List Fac) {k : Nat} {kept : List Fac} {same : List Int} {r : Fac} (hr : rs[k]? = some r) (H : trK (rs.drop k) kept same = trK rs [] []) : trK (rs.drop (k + 1)) (kept ++ [trR same r]) (same ++ [((kept.idxOf (trR same r) : Nat) : Int)]) = trK rs [] [] := by
  rw [← H, drop_cons hr]; rfl
theorem trK_all {rs : List Fac} {kept : List Fac} {same : List Int} {k : Nat} (hk : rs.length ≤ k) (H : trK (rs.drop k) kept same = trK rs [] []) : (kept, same) = trK rs [] [] := by
  rw [← H, List.drop_of_length_le hk]; rfl
theorem trK_I {rs : List Fac} (hwf : WF rs) : ∀ (k : Nat) (kept : List Fac) (same : List Int), TrI kept same → kept.length = k → k ≤ rs.length → TrI (trK (rs.drop k) kept same).1 (trK (rs.drop k) kept same).2 ∧ (trK (rs.drop k) kept same).1.length = rs.length := by
  intro k
  induction hd : rs.length - k generalizing k with
  | zero =>
    intro kept same h hk hle
    rw [List.drop_of_length_le (by omega)]
    exact ⟨h, by show kept.length = _; omega⟩
  | succ d ih =>
    intro kept same h hk hle
    have hr : rs[k]? = some (rs[k]'(by omega)) := List.getElem?_eq_getElem _
    rw [drop_cons hr]
    exact ih (k + 1) (by omega) _ _ (h.step hwf (by rw [hk]; exact hr)) (by simp [hk]) (by omega)
theorem idxOf_le {α : Type} [DecidableEq α] {x : α} : ∀ {l : List α} {j : Nat}, l[j]? = some x → l.idxOf x ≤ j
  | [], j, h => by simp at h
  | y :: l, 0, h => by
    obtain rfl : y = x := by simpa using h
    simp
  | y :: l, j + 1, h => by
    rw [List.idxOf_cons]
    by_cases e : y = x
    · subst e; simp
    · have := idxOf_le (l := l) (j := j) (x := x) (by simpa using h)
      rw [show (y == x) = false by simpa using e]
      show (bif false then 0 else l.idxOf x + 1) ≤ j + 1
      simp only [cond_false]
      omega
/-- the least number of an equal rule, looked for among those that are first ones -/
theorem first_eq {kept : List Fac} {same : List Int} (hs : ∀ (j : Nat) (x : Fac), kept[j]? = some x → same.getD j 0 = ((kept.idxOf x : Nat) : Int)) {j : Nat} {x : Fac} (hj : kept[j]? = some x) (h0 : ∀ i, i < j → kept[i]? ≠ some x) : same.getD j 0 = (j : Int) := by
  rw [hs j x hj]
  have hlt := (List.getElem?_eq_some_iff.1 hj).1
  have hm : x ∈ kept := List.mem_of_getElem? hj
  have h1 : kept.idxOf x < kept.length := List.idxOf_lt_length_iff.2 hm
  have h2 : kept[kept.idxOf x]? = some x := by rw [List.getElem?_eq_getElem h1, List.getElem_idxOf]
  rcases Nat.lt_trichotomy (kept.idxOf x) j with h | h | h
  · exact absurd h2 (h0 _ h)
  · rw [h]
  · exfalso
    have := idxOf_le hj
    omega
theorem idx_app1 {f y : Fac} {kept : List Fac} (h : f ∈ kept) : (kept ++ [y]).idxOf f = kept.idxOf f := by rw [List.idxOf_append, if_pos h]
theorem idx_app2 (y : Fac) (kept : List Fac) : (kept ++ [y]).idxOf y = kept.idxOf y := by
  rw [List.idxOf_append]
  by_cases h : y ∈ kept
  · rw [if_pos h]
  · rw [if_neg h, List.idxOf_eq_length h]; simp
/-- the map behind a rule that was known -/
theorem map_known {g : Fac → Option Value} {y : Fac} {kept : List Fac} (h : ∀ f, g f = if f ∈ kept then some (.int .i64 ((kept.idxOf f : Nat) : Int)) else none) (hy : y ∈ kept) (f : Fac) : g f = if f ∈ kept ++ [y] then some (.int .i64 (((kept ++ [y]).idxOf f : Nat) : Int)) else none := by
  rw [h f]
  by_cases hf : f ∈ kept
  · rw [if_pos hf, if_pos (List.mem_append_left _ hf), idx_app1 hf]
  · rw [if_neg hf, if_neg (by
      intro e
      rcases List.mem_append.1 e with e | e
      · exact hf e
      · rw [List.mem_singleton.1 e] at hf; exact hf hy)]
/-- and behind one that was not -/
theorem map_new {g : Fac → Option Value} {y : Fac} {kept : List Fac} (h : ∀ f, g f = if f ∈ kept then some (.int .i64 ((kept.idxOf f : Nat) : Int)) else none) (hy : y ∉ kept) (f : Fac) : (if f = y then some (.int .i64 (kept.length : Int)) else g f) = if f ∈ kept ++ [y] then some (.int .i64 (((kept ++ [y]).idxOf f : Nat) : Int)) else none := by
  by_cases hf : f = y
  · subst hf
    rw [if_pos rfl, if_pos (by simp), idx_app2, List.idxOf_eq_length hy]
  · rw [if_neg hf, h f]
    by_cases hk : f ∈ kept
    · rw [if_pos hk, if_pos (List.mem_append_left _ hk), idx_app1 hk]
    · rw [if_neg hk, if_neg (by
        intro e
        rcases List.mem_append.1 e with e | e
        · exact hk e
        · exact hf (List.mem_singleton.1 e))]
end Go.Proofs.Ytgdbpkpaacbhhaa


/-
  The letters of a grammar replaced: the plain part.
-/
namespace Go.Proofs.Ytgdbpkpaacbhhaa

/-- a rule with its numbers raised -/
def rsF (by_ : Int) (r : Fac) : Fac := if r.l.size = 0 then ⟨r.l, r.a + by_, r.b + by_⟩ else r
def raiseL (by_ : Int) (rs : List Fac) : List Fac := rs.map (rsF by_)
theorem raiseL_len (b : Int) (rs : List Fac) : (raiseL b rs).length = rs.length := by simp [raiseL]
/-- is a letter a rule? -/
def usedL (rs : List Fac) (u : UInt8) : Bool := rs.any fun r => decide (r.l = ⟨#[u]⟩)
theorem usedL_mem {rs : List Fac} (hwf : WF rs) (u : UInt8) : usedL rs u = decide (ruleC u ∈ rs) := by
  rw [Bool.eq_iff_iff]
  unfold usedL
  simp only [List.any_eq_true, decide_eq_true_eq]
  constructor
  · rintro ⟨r, hr, h⟩
    obtain ⟨k, hk⟩ := List.mem_iff_getElem?.1 hr
    rcases hwf k r hk with ⟨h0, _⟩ | ⟨c, _, hl, ha, hb⟩
    · rw [h] at h0; exact absurd h0 (show ¬ (1 : Nat) = 0 by omega)
    · have : r = ruleC u := by
        cases r; simp only at h ha hb; subst h ha hb; rfl
      rw [← this]; exact hr
  · intro h; exact ⟨_, h, rfl⟩
def lb (k : Nat) : UInt8 := UInt8.ofNat (97 + k)
theorem lb_num {k : Nat} (h : k < 4) : ((lb k).toNat : Int) = 97 + k := by unfold lb; simp; omega
def mlStep (rs : List Fac) (k : Nat) (w : ByteArray) (s : List Fac × List Int) : List Fac × List Int :=
  if w.size ≠ 0 ∧ usedL rs (lb k) = true then (s.1 ++ raiseL s.1.length (plainL w.data.toList), s.2.set k (((s.1.length + (plainL w.data.toList).length : Nat) : Int) - 1)) else s
def mlGo (rs : List Fac) : Nat → List ByteArray → List Fac × List Int → List Fac × List Int
  | _, [], s => s
  | k, w :: ws, s => mlGo rs (k + 1) ws (mlStep rs k w s)
def mrStep (st : List Int) (r : Fac) (s : List Fac × List Int) : List Fac × List Int :=
  if r.l.size = 0 then
    (if s.2.getD r.a.toNat 0 < 0 then (s.1, s.2 ++ [s.2.getD r.b.toNat 0])
     else if s.2.getD r.b.toNat 0 < 0 then (s.1, s.2 ++ [s.2.getD r.a.toNat 0])
     else (s.1 ++ [⟨⟨#[]⟩, s.2.getD r.a.toNat 0, s.2.getD r.b.toNat 0⟩], s.2 ++ [(s.1.length : Int)]))
  else (s.1, s.2 ++ [st.getD (letN r.l) 0])
def mrGo (st : List Int) : List Fac → List Fac × List Int → List Fac × List Int
  | [], s => s
  | r :: rs, s => mrGo st rs (mrStep st r s)
def mapS1 (rs : List Fac) (ws : List ByteArray) : List Fac × List Int := mlGo rs 0 ws ([], [-1, -1, -1, -1])
def mapS2 (rs : List Fac) (ws : List ByteArray) : List Fac × List Int := mrGo (mapS1 rs ws).2 rs ((mapS1 rs ws).1, [])

theorem wf_nil : WF [] := fun k r h => by simp at h
theorem wf_snoc {rs : List Fac} (h : WF rs) {a b : Int} (ha : 0 ≤ a ∧ a < rs.length) (hb : 0 ≤ b ∧ b < rs.length) : WF (rs ++ [⟨⟨#[]⟩, a, b⟩]) := by
  intro k r hr
  by_cases hk : k < rs.length
  · rw [List.getElem?_append_left hk] at hr; exact h k r hr
  · rw [List.getElem?_append_right (by omega)] at hr
    have hk' : k = rs.length := by
      have := (List.getElem?_eq_some_iff.1 hr).1
      simp only [List.length_cons, List.length_nil] at this; omega
    subst hk'
    simp at hr
    subst hr
    exact .inl ⟨rfl, ha.1, ha.2, hb.1, hb.2⟩
theorem wf_take {rs : List Fac} (h : WF rs) (n : Nat) : WF (rs.take n) := fun k r hr => by
  rw [List.getElem?_take] at hr
  split at hr
  · exact h k r hr
  · cases hr
theorem wf_raise {xs ys : List Fac} (hx : WF xs) (hy : WF ys) : WF (xs ++ raiseL xs.length ys) := by
  intro k r hr
  by_cases hk : k < xs.length
  · rw [List.getElem?_append_left hk] at hr; exact hx k r hr
  · rw [List.getElem?_append_right (by omega)] at hr
    unfold raiseL at hr
    rw [List.getElem?_map] at hr
    obtain ⟨y, hy1, rfl⟩ := Option.map_eq_some_iff.1 hr
    rcases hy _ y hy1 with ⟨h0, a0, a1, b0, b1⟩ | ⟨c, hc, hl, ha, hb⟩
    · unfold rsF
      rw [if_pos h0]
      exact .inl ⟨h0, by show 0 ≤ y.a + _; omega, by show y.a + _ < _; omega, by show 0 ≤ y.b + _; omega, by show y.b + _ < _; omega⟩
    · unfold rsF
      rw [if_neg (by rw [hl]; show ¬ (1 : Nat) = 0; omega)]
      exact .inr ⟨c, hc, hl, ha, hb⟩
theorem wf_letters (ks : List UInt8) (h : ∀ c ∈ ks, letB c = true) : WF (ks.map ruleC) := fun k r hr => by
  rw [List.getElem?_map] at hr
  obtain ⟨c, hc, rfl⟩ := Option.map_eq_some_iff.1 hr
  exact .inr ⟨c, h c (List.mem_of_getElem? hc), rfl, rfl, rfl⟩
theorem ks_letB {w : List UInt8} {c : UInt8} (h : c ∈ ksP w) : letB c = true := by
  unfold ksP at h
  have := (List.mem_filter.1 h).1
  simp only [List.mem_cons, List.not_mem_nil, or_false] at this
  rcases this with rfl | rfl | rfl | rfl <;> rfl
theorem wf_pairs (w : List UInt8) : ∀ (cs : List UInt8) (b : Int) (xs : List Fac), WF xs → (∀ c ∈ cs, 0 ≤ atP w c ∧ atP w c < xs.length) → 0 ≤ b → b < xs.length → WF (xs ++ pairsP w cs b xs.length)
  | [], b, xs, h, _, _, _ => by simpa [pairsP] using h
  | c :: cs, b, xs, h, hc, hb0, hb1 => by
    have h1 := hc c (by simp)
    have h2 := wf_snoc h ⟨hb0, hb1⟩ h1
    have h3 := wf_pairs w cs (xs.length : Int) (xs ++ [⟨⟨#[]⟩, b, atP w c⟩]) h2 (fun c' hc' => by have := hc c' (by simp [hc']); simp only [List.length_append, List.length_singleton]; omega) (by omega) (by simp only [List.length_append, List.length_singleton]; omega)
    simp only [List.length_append, List.length_singleton, List.append_assoc] at h3
    exact h3
theorem wf_plain {w : List UInt8} (hl : w.all letB = true) : WF (plainL w) := by
  unfold plainL
  split
  · exact wf_nil
  · rename_i c cs
    have hm : ∀ c' ∈ c :: cs, letB c' = true := by simpa using hl
    have hlen : (lettersP (c :: cs)).length = (ksP (c :: cs)).length := by simp [lettersP]
    rw [← hlen]
    have := atP_lt (w := c :: cs) (c := c) (by simp) (hm c (by simp))
    exact wf_pairs _ cs _ _ (wf_letters _ fun _ h => ks_letB h) (fun c' hc' => by rw [hlen]; exact atP_lt (by simp [hc']) (hm c' (by simp [hc']))) this.1 (by rw [hlen]; exact this.2)
theorem plainL_pos {w : List UInt8} (h : w ≠ []) (hl : w.all letB = true) : 0 < (plainL w).length := by
  unfold plainL
  split
  · exact absurd rfl h
  · rename_i c cs
    have hc : letB c = true := by simp at hl; exact hl.1
    have : 0 < (lettersP (c :: cs)).length := by
      rw [List.length_pos_iff_exists_mem]
      exact ⟨ruleC c, List.mem_map.2 ⟨c, mem_ks (by simp) hc, rfl⟩⟩
    simp only [List.length_append]; omega
/-- what holds of the letters' rules and numbers -/
structure MlI (s : List Fac × List Int) (k : Nat) : Prop where
  wf : WF s.1
  st : s.2.length = 4
  b : ∀ i, i < 4 → -1 ≤ s.2.getD i 0 ∧ s.2.getD i 0 < s.1.length
  n : s.1.length ≤ 2004 * k
theorem okW_let {s : ByteArray} (h : okW s = true) : s.data.toList.all letB = true ∧ s.size ≤ 2000 := by
  unfold okW at h; simpa [and_comm] using h
theorem MlI.step {rs : List Fac} {s : List Fac × List Int} {k : Nat} (h : MlI s k) (hk : k < 4) {w : ByteArray} (hw : okW w = true) : MlI (mlStep rs k w s) (k + 1) := by
  unfold mlStep
  split
  · rename_i hc
    obtain ⟨hl, hsz⟩ := okW_let hw
    have h1 := plainL_len w.data.toList
    have h2 := plainL_pos (w := w.data.toList) (fun e => hc.1 (by rw [← byte_len, e]; rfl)) hl
    rw [byte_len] at h1
    refine ⟨wf_raise h.wf (wf_plain hl), by simpa using h.st, fun i hi => ?_, ?_⟩
    · have := h.b i hi
      simp only [List.length_append, raiseL_len]
      rw [List.getD_eq_getElem?_getD, List.getElem?_set]
      split
      · rw [if_pos (by rw [h.st]; omega)]; simp only [Option.getD_some]; omega
      · rw [← List.getD_eq_getElem?_getD]; omega
    · have := h.n
      simp only [List.length_append, raiseL_len]; omega
  · exact ⟨h.wf, h.st, h.b, by have := h.n; omega⟩
theorem MlI.nil : MlI ([], [-1, -1, -1, -1]) 0 := ⟨wf_nil, rfl, fun i hi => by
  rcases i with _ | _ | _ | _ | i
  · decide
  · decide
  · decide
  · decide
  · omega, by simp⟩
theorem MlI.go {rs : List Fac} : ∀ (ws : List ByteArray) (k : Nat) (s : List Fac × List Int), MlI s k → k + ws.length ≤ 4 → (∀ w ∈ ws, okW w = true) → MlI (mlGo rs k ws s) (k + ws.length)
  | [], _, _, h, _, _ => h
  | w :: ws, k, s, h, hk, hw => by
    simp only [List.length_cons] at hk ⊢
    have := MlI.go (rs := rs) ws (k + 1) (mlStep rs k w s) (h.step (by omega) (hw w (by simp))) (by omega) (fun x hx => hw x (by simp [hx]))
    rw [show k + (ws.length + 1) = k + 1 + ws.length by omega]
    exact this
/-- what holds of the rules that stand for others -/
structure MrI (s : List Fac × List Int) (n k : Nat) : Prop where
  wf : WF s.1
  st : s.2.length = k
  b : ∀ i, i < k → -1 ≤ s.2.getD i 0 ∧ s.2.getD i 0 < s.1.length
  n : s.1.length ≤ n + k
theorem getD_snoc (xs : List Int) (x : Int) (i : Nat) : (xs ++ [x]).getD i 0 = if i < xs.length then xs.getD i 0 else if i = xs.length then x else 0 := by
  rw [List.getD_eq_getElem?_getD]
  split
  · rw [List.getElem?_append_left (by omega), ← List.getD_eq_getElem?_getD]
  · split
    · rename_i h; subst h; simp
    · rw [List.getElem?_eq_none (by simp; omega)]; rfl
theorem MrI.step {st : List Int} {s : List Fac × List Int} {n k : Nat} (h : MrI s n k) (hst : ∀ i, i < 4 → -1 ≤ st.getD i 0 ∧ st.getD i 0 < s.1.length) {r : Fac}
    (hr : (r.l.size = 0 ∧ 0 ≤ r.a ∧ r.a < k ∧ 0 ≤ r.b ∧ r.b < k) ∨ (∃ c, letB c = true ∧ r.l = ⟨#[c]⟩ ∧ r.a = 0 ∧ r.b = 0)) : MrI (mrStep st r s) n (k + 1) ∧ s.1.length ≤ (mrStep st r s).1.length := by
  have snoc : ∀ (out : List Fac) (x : Int), s.1.length ≤ out.length → -1 ≤ x ∧ x < out.length → ∀ i, i < k + 1 → -1 ≤ (s.2 ++ [x]).getD i 0 ∧ (s.2 ++ [x]).getD i 0 < out.length := by
    intro out x hle hx i hi
    rw [getD_snoc, h.st]
    split
    · have := h.b i (by assumption); omega
    · split
      · exact hx
      · omega
  unfold mrStep
  rcases hr with ⟨h0, a0, a1, b0, b1⟩ | ⟨c, hc, hl, ha, hb⟩
  · rw [if_pos h0]
    have hA := h.b r.a.toNat (by omega)
    have hB := h.b r.b.toNat (by omega)
    split
    · exact ⟨⟨h.wf, by simp [h.st], snoc _ _ (Nat.le_refl _) hB, Nat.le_trans h.n (by omega)⟩, Nat.le_refl _⟩
    · split
      · exact ⟨⟨h.wf, by simp [h.st], snoc _ _ (Nat.le_refl _) hA, Nat.le_trans h.n (by omega)⟩, Nat.le_refl _⟩
      · refine ⟨⟨wf_snoc h.wf ⟨by omega, hA.2⟩ ⟨by omega, hB.2⟩, by simp [h.st], snoc _ _ (by simp) (by simp; omega), by have := h.n; simp; omega⟩, by simp⟩
  · rw [if_neg (by rw [hl]; show ¬ (1 : Nat) = 0; omega)]
    have hq : letN r.l < 4 := by rw [hl]; exact letN_lt (s := ⟨#[c]⟩) hc
    exact ⟨⟨h.wf, by simp [h.st], snoc _ _ (Nat.le_refl _) (hst _ hq), Nat.le_trans h.n (by omega)⟩, Nat.le_refl _⟩
theorem mrGo_snoc (st : List Int) : ∀ (rs : List Fac) (r : Fac) (s : List Fac × List Int), mrGo st (rs ++ [r]) s = mrStep st r (mrGo st rs s)
  | [], _, _ => rfl
  | x :: rs, r, s => mrGo_snoc st rs r (mrStep st x s)
theorem take_succ_at {α : Type} {rs : List α} {k : Nat} {r : α} (h : rs[k]? = some r) : rs.take (k + 1) = rs.take k ++ [r] := by
  rw [List.take_add_one, h]; rfl
/-- the rules up to one -/
theorem mapS2_I {rs : List Fac} (hwf : WF rs) {s : List Fac × List Int} {n : Nat} (h : MrI (s.1, []) n 0) (hst : ∀ i, i < 4 → -1 ≤ s.2.getD i 0 ∧ s.2.getD i 0 < s.1.length) :
    ∀ k, k ≤ rs.length → MrI (mrGo s.2 (rs.take k) (s.1, [])) n k ∧ s.1.length ≤ (mrGo s.2 (rs.take k) (s.1, [])).1.length
  | 0, _ => ⟨h, Nat.le_refl _⟩
  | k + 1, hk => by
    have ⟨h1, h2⟩ := mapS2_I hwf h hst k (by omega)
    have hr : rs[k]? = some rs[k] := List.getElem?_eq_getElem (by omega)
    rw [take_succ_at hr, mrGo_snoc]
    have ⟨h3, h4⟩ := h1.step (st := s.2) (fun i hi => by have := hst i hi; omega) (hwf k _ hr)
    exact ⟨h3, by omega⟩
end Go.Proofs.Ytgdbpkpaacbhhaa


/-
  A grammar trimmed: it is valid where the grammar was, and its word is the grammar's.
-/
namespace Go.Proofs.Ytgdbpkpaacbhhaa

section
variable {α : Type} (d : α) (F : Nat → α) (G : α → α → Fac → α)
theorem full_snoc (xs : List Fac) (y : Fac) : full d F G (xs ++ [y]) = full d F G xs ++ [fStep d F G (full d F G xs) y] := foldG_snoc d F G xs y []
theorem full_old (xs : List Fac) (y : Fac) {p : Nat} (h : p < xs.length) : (full d F G (xs ++ [y])).getD p d = (full d F G xs).getD p d := by
  rw [full_snoc, List.getD_eq_getElem?_getD, List.getElem?_append_left (by rw [full_len]; exact h), ← List.getD_eq_getElem?_getD]
theorem full_new (xs : List Fac) (y : Fac) : (full d F G (xs ++ [y])).getD xs.length d = fStep d F G (full d F G xs) y := by
  rw [full_snoc, List.getD_eq_getElem?_getD, List.getElem?_append_right (by rw [full_len]; exact Nat.le_refl _), full_len, Nat.sub_self]; rfl
/-- equal rules have equal values -/
theorem full_same {rs : List Fac} (hwf : WF rs) {i j : Nat} {y : Fac} (hi : rs[i]? = some y) (hj : rs[j]? = some y) : (full d F G rs).getD i d = (full d F G rs).getD j d := by
  by_cases h0 : y.l.size = 0
  · rw [full_pair d F G hwf hi h0, full_pair d F G hwf hj h0]
  · rw [full_let d F G hi h0, full_let d F G hj h0]
end

/-- what the first round leaves -/
structure TkI (rs kept : List Fac) (same : List Int) (k : Nat) : Prop where
  lk : kept.length = k
  ls : same.length = k
  r : ∀ (i : Nat) (r : Fac), i < k → rs[i]? = some r → kept[i]? = some (trR same r)
  s : ∀ i, i < k → ∃ s : Nat, same.getD i 0 = (s : Int) ∧ s ≤ i ∧ kept[s]? = kept[i]?
theorem trR_more {same : List Int} (x : Int) {r : Fac} {i : Nat} (hr : (r.l.size = 0 ∧ 0 ≤ r.a ∧ r.a < (i : Int) ∧ 0 ≤ r.b ∧ r.b < (i : Int)) ∨ (∃ c, letB c = true ∧ r.l = ⟨#[c]⟩ ∧ r.a = 0 ∧ r.b = 0)) (hi : i ≤ same.length) : trR (same ++ [x]) r = trR same r := by
  unfold trR
  rcases hr with ⟨h0, a0, a1, b0, b1⟩ | ⟨c, _, hl, _⟩
  · rw [if_pos h0, if_pos h0, getD_snoc, if_pos (by omega), getD_snoc, if_pos (by omega)]
  · rw [if_neg (by rw [hl]; show ¬ (1 : Nat) = 0; omega), if_neg (by rw [hl]; show ¬ (1 : Nat) = 0; omega)]
theorem TkI.step {rs kept : List Fac} {same : List Int} {k : Nat} (h : TkI rs kept same k) (hwf : WF rs) {r : Fac} (hr : rs[k]? = some r) : TkI rs (kept ++ [trR same r]) (same ++ [((kept.idxOf (trR same r) : Nat) : Int)]) (k + 1) := by
  have hlk := h.lk
  have hls := h.ls
  refine ⟨by simp [hlk], by simp [hls], fun i x hi hx => ?_, fun i hi => ?_⟩
  · by_cases e : i < k
    · rw [List.getElem?_append_left (by omega), h.r i x e hx, trR_more _ (hwf i x hx) (by omega)]
    · obtain rfl : i = k := by omega
      obtain rfl : r = x := by rw [hr] at hx; exact Option.some.inj hx
      rw [List.getElem?_append_right (by omega), hlk, Nat.sub_self, trR_more _ (hwf i r hr) (by omega)]; rfl
  · by_cases e : i < k
    · obtain ⟨s, h1, h2, h3⟩ := h.s i e
      refine ⟨s, ?_, h2, ?_⟩
      · rw [getD_snoc, if_pos (by omega)]; exact h1
      · rw [List.getElem?_append_left (by omega), List.getElem?_append_left (by omega)]; exact h3
    · obtain rfl : i = k := by omega
      have hle := List.idxOf_le_length (a := trR same r) (l := kept)
      refine ⟨kept.idxOf (trR same r), ?_, by omega, ?_⟩
      · rw [getD_snoc, if_neg (by omega), if_pos (by omega)]
      · by_cases e2 : kept.idxOf (trR same r) < kept.length
        · rw [List.getElem?_append_left e2, List.getElem?_append_right (by omega), hlk, Nat.sub_self, List.getElem?_eq_getElem e2, List.getElem_idxOf]; rfl
        · rw [show kept.idxOf (trR same r) = i by omega]
theorem trK_tk {rs : List Fac} (hwf : WF rs) : ∀ (n k : Nat) (kept : List Fac) (same : List Int), TkI rs kept same k → k + n = rs.length → TkI rs (trK (rs.drop k) kept same).1 (trK (rs.drop k) kept same).2 rs.length
  | 0, k, kept, same, h, hk => by
    rw [List.drop_of_length_le (by omega)]
    have : k = rs.length := by omega
    rw [← this]; exact h
  | n + 1, k, kept, same, h, hk => by
    have hr : rs[k]? = some (rs[k]'(by omega)) := List.getElem?_eq_getElem _
    rw [drop_cons hr]
    exact trK_tk hwf n (k + 1) _ _ (h.step hwf hr) (by omega)
theorem tk_all {rs : List Fac} (hwf : WF rs) : TkI rs (trK rs [] []).1 (trK rs [] []).2 rs.length ∧ WF (trK rs [] []).1 := by
  refine ⟨trK_tk hwf rs.length 0 [] [] ⟨rfl, rfl, fun i r h => absurd h (by omega), fun i h => absurd h (by omega)⟩ (by omega), ?_⟩
  exact (trK_I hwf 0 [] [] TrI.nil rfl (by omega)).1.k
section
variable {α : Type} (d : α) (F : Nat → α) (G : α → α → Fac → α) (hG : ∀ a b r r', G a b r = G a b r')
include hG
/-- the rules told by the first equal ones have the same values -/
theorem kept_val {rs kept : List Fac} {same : List Int} (hwf : WF rs) (h : TkI rs kept same rs.length) (hwk : WF kept) : ∀ i, i < rs.length → (full d F G kept).getD i d = (full d F G rs).getD i d := by
  intro i
  induction i using Nat.strongRecOn with
  | ind i ih =>
    intro hi
    have hr : rs[i]? = some (rs[i]'hi) := List.getElem?_eq_getElem _
    have hk := h.r i _ hi hr
    have val : ∀ j, j < i → (full d F G kept).getD (same.getD j 0).toNat d = (full d F G rs).getD j d := fun j hj => by
      obtain ⟨s, h1, h2, h3⟩ := h.s j (by omega)
      rw [h1, Int.toNat_natCast, ← ih j hj (by omega)]
      have hj' : kept[j]? = some (kept[j]'(by rw [h.lk]; omega)) := List.getElem?_eq_getElem _
      exact full_same d F G hwk (h3.trans hj') hj'
    rcases hwf i _ hr with ⟨h0, a0, a1, b0, b1⟩ | ⟨c, hc, hl, _⟩
    · unfold trR at hk
      rw [if_pos h0] at hk
      rw [full_pair d F G hwk hk rfl, full_pair d F G hwf hr h0]
      show G ((full d F G kept).getD (same.getD _ 0).toNat d) ((full d F G kept).getD (same.getD _ 0).toNat d) _ = _
      rw [val _ (by omega), val _ (by omega)]
      exact hG _ _ _ _
    · have h0 : (rs[i]'hi).l.size ≠ 0 := by rw [hl]; show (1 : Nat) ≠ 0; omega
      unfold trR at hk
      rw [if_neg h0] at hk
      rw [full_let d F G hk h0, full_let d F G hr h0]
end

/-- which rules are used -/
theorem useStep_len (kept : List Fac) (i : Nat) (u : List Bool) : (useStep kept i u).length = u.length := by unfold useStep; split <;> simp
theorem set_getD {u : List Bool} {i j : Nat} (hi : i < u.length) : (u.set i true).getD j false = if i = j then true else u.getD j false := by
  rw [List.getD_eq_getElem?_getD, List.getElem?_set]
  split
  · rename_i h; subst h; simp [hi]
  · rw [← List.getD_eq_getElem?_getD]
theorem useT_I {kept : List Fac} (hwk : WF kept) : ∀ (k : Nat) (u : List Bool), k ≤ kept.length → u.length = kept.length →
    (useT kept k u).length = kept.length ∧ (∀ j, k ≤ j → (useT kept k u).getD j false = u.getD j false) ∧ (∀ j, u.getD j false = true → (useT kept k u).getD j false = true) ∧
    (∀ (i : Nat) (r : Fac), i < k → kept[i]? = some r → r.l.size = 0 → (useT kept k u).getD i false = true → (useT kept k u).getD r.a.toNat false = true ∧ (useT kept k u).getD r.b.toNat false = true) ∧
    (∀ s, (∀ j, s < j → u.getD j false = false) → ∀ j, s < j → (useT kept k u).getD j false = false)
  | 0, u, _, hl => ⟨hl, fun _ _ => rfl, fun _ h => h, fun i r h => absurd h (by omega), fun s h => h⟩
  | k + 1, u, hk, hl => by
    have hr : kept[k]? = some (kept[k]'(by omega)) := List.getElem?_eq_getElem _
    have hd : kept.getD k default = kept[k]'(by omega) := by rw [List.getD_eq_getElem?_getD, hr]; rfl
    obtain ⟨i1, i2, i3, i4, i5⟩ := useT_I hwk k (useStep kept k u) (by omega) (by rw [useStep_len, hl])
    have hst : ∀ j, (useStep kept k u).getD j false = if (u.getD k false = true ∧ (kept[k]'(by omega)).l.size = 0) ∧ (j = (kept[k]'(by omega)).a.toNat ∨ j = (kept[k]'(by omega)).b.toNat) then true else u.getD j false := by
      intro j
      unfold useStep
      rw [hd]
      by_cases hc : u.getD k false = true ∧ (kept[k]'(by omega)).l.size = 0
      · rw [if_pos hc]
        rcases hwk k _ hr with ⟨_, a0, a1, b0, b1⟩ | ⟨c, _, hl', _⟩
        · rw [set_getD (by simp; omega), set_getD (by omega)]
          by_cases h1 : j = (kept[k]'(by omega)).b.toNat
          · rw [if_pos h1.symm, if_pos ⟨hc, .inr h1⟩]
          · rw [if_neg (fun e => h1 e.symm)]
            by_cases h2 : j = (kept[k]'(by omega)).a.toNat
            · rw [if_pos h2.symm, if_pos ⟨hc, .inl h2⟩]
            · rw [if_neg (fun e => h2 e.symm), if_neg (fun e => by rcases e.2 with e | e; exact h2 e; exact h1 e)]
        · have := hc.2; rw [hl'] at this; exact absurd this (show ¬ (1 : Nat) = 0 by omega)
      · rw [if_neg hc, if_neg (fun e => hc e.1)]
    have hab : (u.getD k false = true ∧ (kept[k]'(by omega)).l.size = 0) → (kept[k]'(by omega)).a.toNat < k ∧ (kept[k]'(by omega)).b.toNat < k := fun hc => by
      rcases hwk k _ hr with ⟨_, a0, a1, b0, b1⟩ | ⟨c, _, hl', _⟩
      · omega
      · have := hc.2; rw [hl'] at this; exact absurd this (show ¬ (1 : Nat) = 0 by omega)
    have keep : ∀ j, k ≤ j → (useStep kept k u).getD j false = u.getD j false := fun j hj => by
      rw [hst j, if_neg]
      rintro ⟨hc, h | h⟩
      · have := (hab hc).1; omega
      · have := (hab hc).2; omega
    refine ⟨i1, fun j hj => (i2 j (by omega)).trans (keep j (by omega)), fun j hj => i3 j (by rw [hst j]; split; rfl; exact hj), fun i r hi hir h0 hu => ?_, fun s hs j hj => ?_⟩
    · by_cases e : i < k
      · exact i4 i r e hir h0 hu
      · obtain rfl : i = k := by omega
        have hxr : kept[i]'(by omega) = r := by rw [hr] at hir; exact Option.some.inj hir
        rw [← hxr] at h0 ⊢
        have h1 : u.getD i false = true := by
          have := hu
          show _
          rw [show useT kept (i + 1) u = useT kept i (useStep kept i u) from rfl, i2 i (Nat.le_refl _), keep i (Nat.le_refl _)] at this
          exact this
        exact ⟨i3 _ (by rw [hst _, if_pos ⟨⟨h1, h0⟩, .inl rfl⟩]), i3 _ (by rw [hst _, if_pos ⟨⟨h1, h0⟩, .inr rfl⟩])⟩
    · refine i5 s (fun j' hj' => ?_) j hj
      rw [hst j']
      split
      · rename_i hc
        exfalso
        have h1 := hab hc.1
        have h2 : ¬ s < k := fun h => by have := hs k h; rw [hc.1.1] at this; cases this
        rcases hc.2 with h | h <;> omega
      · exact hs j' hj'

section
variable {α : Type} (d : α) (F : Nat → α) (G : α → α → Fac → α) (hG : ∀ a b r r', G a b r = G a b r')
/-- the rules that are left, under way -/
structure OutI (kept : List Fac) (used : List Bool) (i : Nat) (out : List Fac) (at_ : List Int) : Prop where
  wf : WF out
  la : at_.length = kept.length
  v : ∀ j, j < i → used.getD j false = true → ∃ p : Nat, at_.getD j 0 = (p : Int) ∧ p < out.length ∧ (full d F G out).getD p d = (full d F G kept).getD j d
  p : ∀ p, p < out.length → ∃ j, j < kept.length ∧ (full d F G out).getD p d = (full d F G kept).getD j d
  z : ∀ s, s < i → used.getD s false = true → (∀ j, s < j → used.getD j false = false) → 0 < out.length ∧ at_.getD s 0 = (out.length : Int) - 1
include hG
theorem outT_I {kept : List Fac} {used : List Bool} (hwk : WF kept) (hu : ∀ (i : Nat) (r : Fac), kept[i]? = some r → r.l.size = 0 → used.getD i false = true → used.getD r.a.toNat false = true ∧ used.getD r.b.toNat false = true) :
    ∀ (n i : Nat) (out : List Fac) (at_ : List Int), i + n = kept.length → OutI d F G kept used i out at_ → ∃ at2, OutI d F G kept used kept.length (outT used i (kept.drop i) out at_) at2
  | 0, i, out, at_, hi, h => by
    rw [List.drop_of_length_le (by omega)]
    have : i = kept.length := by omega
    subst this
    exact ⟨at_, h⟩
  | n + 1, i, out, at_, hi, h => by
    have hr : kept[i]? = some (kept[i]'(by omega)) := List.getElem?_eq_getElem _
    rw [drop_cons hr, outT]
    by_cases hui : used.getD i false = true
    · rw [if_pos hui]
      refine outT_I hwk hu n (i + 1) _ _ (by omega) ?_
      have hval : WF (out ++ [trR at_ (kept[i]'(by omega))]) ∧ fStep d F G (full d F G out) (trR at_ (kept[i]'(by omega))) = (full d F G kept).getD i d := by
        rcases hwk i _ hr with ⟨h0, a0, a1, b0, b1⟩ | ⟨c, hc, hl, ha, hb⟩
        · obtain ⟨ua, ub⟩ := hu i _ hr h0 hui
          obtain ⟨p, p1, p2, p3⟩ := h.v _ (by omega) ua
          obtain ⟨q, q1, q2, q3⟩ := h.v _ (by omega) ub
          have e : trR at_ (kept[i]'(by omega)) = ⟨⟨#[]⟩, (p : Int), (q : Int)⟩ := by unfold trR; rw [if_pos h0, p1, q1]
          rw [e]
          refine ⟨wf_snoc h.wf ⟨by omega, by omega⟩ ⟨by omega, by omega⟩, ?_⟩
          rw [full_pair d F G hwk hr h0, ← p3, ← q3]
          show (if (0 : Nat) = 0 then G ((full d F G out).getD (p : Int).toNat d) ((full d F G out).getD (q : Int).toNat d) _ else _) = _
          rw [if_pos rfl, Int.toNat_natCast, Int.toNat_natCast]
          exact hG _ _ _ _
        · have h0 : (kept[i]'(by omega)).l.size ≠ 0 := by rw [hl]; show (1 : Nat) ≠ 0; omega
          have e : trR at_ (kept[i]'(by omega)) = kept[i]'(by omega) := by unfold trR; rw [if_neg h0]
          rw [e, full_let d F G hr h0]
          refine ⟨fun k r hk => ?_, by unfold fStep; rw [if_neg h0]⟩
          by_cases hlt : k < out.length
          · rw [List.getElem?_append_left hlt] at hk; exact h.wf k r hk
          · rw [List.getElem?_append_right (by omega)] at hk
            have : r = kept[i]'(by omega) := by
              have h2 := (List.getElem?_eq_some_iff.1 hk).1
              simp only [List.length_cons, List.length_nil] at h2
              rw [show k - out.length = 0 by omega] at hk
              exact (Option.some.inj hk).symm
            subst this
            exact .inr ⟨c, hc, hl, ha, hb⟩
      refine ⟨hval.1, by simp [h.la], fun j hj hj2 => ?_, fun p hp => ?_, fun s hs hs2 hs3 => ?_⟩
      · by_cases e : j = i
        · subst e
          refine ⟨out.length, ?_, by simp, ?_⟩
          · rw [List.getD_eq_getElem?_getD, List.getElem?_set_self (by rw [h.la]; omega)]; rfl
          · rw [full_new, hval.2]
        · obtain ⟨p, p1, p2, p3⟩ := h.v j (by omega) hj2
          refine ⟨p, ?_, by simp; omega, ?_⟩
          · rw [List.getD_eq_getElem?_getD, List.getElem?_set_ne (fun e' => e e'.symm), ← List.getD_eq_getElem?_getD]; exact p1
          · rw [full_old d F G _ _ p2]; exact p3
      · simp only [List.length_append, List.length_singleton] at hp
        by_cases e : p < out.length
        · obtain ⟨j, j1, j2⟩ := h.p p e
          exact ⟨j, j1, by rw [full_old d F G _ _ e]; exact j2⟩
        · obtain rfl : p = out.length := by omega
          exact ⟨i, by omega, by rw [full_new, hval.2]⟩
      · by_cases e : s = i
        · subst e
          refine ⟨by simp, ?_⟩
          rw [List.getD_eq_getElem?_getD, List.getElem?_set_self (by rw [h.la]; omega)]
          simp
        · exfalso
          have := hs3 i (by omega)
          rw [hui] at this; cases this
    · rw [if_neg hui]
      refine outT_I hwk hu n (i + 1) _ _ (by omega) ⟨h.wf, h.la, fun j hj hj2 => ?_, h.p, fun s hs hs2 hs3 => ?_⟩
      · by_cases e : j = i
        · subst e; exact absurd hj2 hui
        · exact h.v j (by omega) hj2
      · by_cases e : s = i
        · subst e; exact absurd hs2 hui
        · exact h.z s (by omega) hs2 hs3
/-- the last value, and where each value comes from -/
theorem trim_val {rs : List Fac} (hwf : WF rs) (h0 : 0 < rs.length) : WF (trimL rs) ∧ 0 < (trimL rs).length ∧ (full d F G (trimL rs)).getD ((trimL rs).length - 1) d = (full d F G rs).getD (rs.length - 1) d ∧
    ∀ p, p < (trimL rs).length → ∃ j, j < rs.length ∧ (full d F G (trimL rs)).getD p d = (full d F G rs).getD j d := by
  obtain ⟨hT, hwk⟩ := tk_all hwf
  have hkv := kept_val d F G hG hwf hT hwk
  have htr : trimL rs = outT (useT (trK rs [] []).1 rs.length (use0 rs.length (trK rs [] []).2)) 0 (trK rs [] []).1 [] (List.replicate rs.length 0) := by unfold trimL; rw [if_neg (by omega)]
  rw [htr]
  generalize (trK rs [] []).1 = kept at *
  generalize (trK rs [] []).2 = same at *
  obtain ⟨s, h1, h2, h3⟩ := hT.s (rs.length - 1) (by omega)
  have hlk := hT.lk
  have hu0 : ∀ j, (use0 rs.length same).getD j false = decide (j = s) := fun j => by
    unfold use0
    rw [h1, Int.toNat_natCast, set_getD (by simp; omega)]
    by_cases e : s = j
    · rw [if_pos e]; simp [e]
    · rw [if_neg e, List.getD_eq_getElem?_getD, List.getElem?_replicate]
      have : decide (j = s) = false := by simp; exact fun h => e h.symm
      rw [this]; split <;> rfl
  obtain ⟨u1, u2, u3, u4, u5⟩ := useT_I hwk rs.length (use0 rs.length same) (by omega) (by unfold use0; simp [hlk])
  have hus : (useT kept rs.length (use0 rs.length same)).getD s false = true := u3 s (by rw [hu0]; simp)
  have hul : ∀ j, s < j → (useT kept rs.length (use0 rs.length same)).getD j false = false := u5 s (fun j hj => by rw [hu0]; simp; omega)
  obtain ⟨at2, hO⟩ := outT_I d F G hG hwk (fun i r hi h0 hu => u4 i r (by have := (List.getElem?_eq_some_iff.1 hi).1; omega) hi h0 hu) kept.length 0 [] (List.replicate rs.length 0) (by omega)
    ⟨wf_nil, by simp [hlk], fun j hj => absurd hj (by omega), fun p hp => absurd hp (by simp), fun s hs => absurd hs (by omega)⟩
  rw [List.drop_zero] at hO
  obtain ⟨z1, z2⟩ := hO.z s (by omega) hus hul
  obtain ⟨p, p1, p2, p3⟩ := hO.v s (by omega) hus
  refine ⟨hO.wf, z1, ?_, fun p hp => ?_⟩
  · have : p = (outT (useT kept rs.length (use0 rs.length same)) 0 kept [] (List.replicate rs.length 0)).length - 1 := by omega
    rw [← this, p3, hkv s (by omega), ← hkv (rs.length - 1) (by omega), ← hkv s (by omega)]
    have hj' : kept[rs.length - 1]? = some (kept[rs.length - 1]'(by omega)) := List.getElem?_eq_getElem _
    exact full_same d F G hwk (h3.trans hj') hj'
  · obtain ⟨j, j1, j2⟩ := hO.p p hp
    exact ⟨j, by omega, by rw [j2]; exact hkv j (by omega)⟩
end

/-- a grammar whose lengths are not too great is valid -/
theorem gLens_of {rs : List Fac} (hwf : WF rs) (hb : ∀ k, k < rs.length → (full 0 lenF lenG rs).getD k 0 ≤ 1000000000000000) : ∀ (n k : Nat), k + n = rs.length → (gLens (rs.drop k) (outs 0 lenF lenG rs k)).isSome = true
  | 0, k, hk => by rw [List.drop_of_length_le (by omega)]; rfl
  | n + 1, k, hk => by
    have hr : rs[k]? = some (rs[k]'(by omega)) := List.getElem?_eq_getElem _
    rw [drop_cons hr]
    have hol : (outs 0 lenF lenG rs k).length = k := outs_len 0 lenF lenG rs k (by omega)
    have hst : gStep (outs 0 lenF lenG rs k) (rs[k]'(by omega)) = some (fStep 0 lenF lenG (outs 0 lenF lenG rs k) (rs[k]'(by omega))) := by
      have hv := hb k (by omega)
      rw [full_at 0 lenF lenG hr] at hv
      unfold gStep
      unfold fStep at hv ⊢
      rcases hwf k _ hr with ⟨h0, a0, a1, b0, b1⟩ | ⟨c, hc, hl, ha, hb'⟩
      · rw [if_pos h0] at hv ⊢
        rw [if_pos h0, if_pos ⟨a0, by omega, b0, by omega, hv⟩]; rfl
      · have h0 : (rs[k]'(by omega)).l.size ≠ 0 := by rw [hl]; show (1 : Nat) ≠ 0; omega
        rw [if_neg h0, if_neg h0, if_pos ⟨by rw [hl]; exact hc, ha, hb'⟩]; rfl
    unfold gLens
    rw [hst]
    show (gLens (rs.drop (k + 1)) (outs 0 lenF lenG rs k ++ [fStep 0 lenF lenG (outs 0 lenF lenG rs k) (rs[k]'(by omega))])).isSome = true
    rw [← outs_step 0 lenF lenG hr]
    exact gLens_of hwf hb n (k + 1) (by omega)
/-- a trimmed grammar is valid, if it has not too many rules -/
theorem trim_ok {rs : List Fac} (hwf : WF rs) (hb : ∀ k, k < rs.length → (full 0 lenF lenG rs).getD k 0 ≤ 1000000000000000) (hn : (trimL rs).length ≤ 400) : (gOk (trimL rs)).isSome = true := by
  unfold gOk
  rw [if_neg (by omega)]
  by_cases h0 : rs.length = 0
  · have : trimL rs = [] := by unfold trimL; rw [if_pos h0]
    rw [this]; rfl
  · obtain ⟨h1, h2, _, h4⟩ := trim_val 0 lenF lenG (fun _ _ _ _ => rfl) hwf (by omega)
    have := gLens_of h1 (fun k hk => by obtain ⟨j, j1, j2⟩ := h4 k hk; rw [j2]; exact hb j j1) (trimL rs).length 0 (by omega)
    simpa [outs, foldG] using this
end Go.Proofs.Ytgdbpkpaacbhhaa


/-
  The walk made to stand ahead of an operation, so that a law can be laid there.
-/
namespace Go.Proofs.Ytgdbpkpaacbhhaa
open Go.RowKit

/-! ### the walk made to stand ahead of an operation -/
def Stop (p : Prop) : Prop := p
theorem stopW {P : Program} {ops : Array Oper} {Q : Exit → Act → World → Prop} {a : Act} {W : World} {l : List Oper} (h : Stop (wpList P ops Q l a W)) : wpList P ops Q l a W := h
theorem stop_named {P : Program} {ops : Array Oper} {Q : Exit → Act → World → Prop} {a : Act} {W : World} {l : List Oper} (h : ∀ w, Hid (w = W) → Stop (wpList P ops Q l a w)) : Stop (wpList P ops Q l a W) := h W (Lib.hid rfl)
end Go.Proofs.Ytgdbpkpaacbhhaa


/-
  Lists of rules that a call makes: what is appended, copied.
-/
namespace Go.Proofs.Ytgdbpkpaacbhhaa
open Go.RowKit

theorem elem_rule : Elem Try.prog 24 82 3 32 := Elem.mk' (z := .agg #[.string .empty, .int .i64 0, .int .i64 0]) Try.underlying24 (by kernel_rfl) rfl
theorem one_fac (f : Fac) : ∀ u ∈ Fac.cells f, u.oneCell' = true := by simp [Fac.cells, Value.oneCell']
/-- what lies behind a list, cell for cell -/
theorem Rd.news {α : Type} {w : World} {B n sz : Nat} {A : Option Addr} {enc : α → List Value} {xs : List α} (h : Rd w B A n sz enc xs) (hl : ∀ x ∈ xs, (enc x).length = sz) (hn : 0 < n) :
    ∃ b o, A = some ⟨b, o, none⟩ ∧ b < B ∧ ∀ j u, (xs.flatMap enc)[j]? = some u → w.cell? ((⟨b, o, none⟩ : Addr).add j) = some u := by
  obtain ⟨b, o, hA, hb, hc⟩ := h.2 hn
  refine ⟨b, o, hA, hb, fun j u hj => ?_⟩
  have hlt := (List.getElem?_eq_some_iff.1 hj).1
  rw [flat_len xs hl] at hlt
  have hsz : 0 < sz := by
    rcases Nat.eq_zero_or_pos sz with h | h
    · subst h; simp at hlt
    · exact h
  have hk : j / sz < xs.length := Nat.div_lt_of_lt_mul (by rw [Nat.mul_comm]; exact hlt)
  have he : j / sz * sz + j % sz = j := by rw [Nat.mul_comm]; exact Nat.div_add_mod j sz
  have hx : xs[j / sz]? = some (xs[j / sz]'hk) := List.getElem?_eq_getElem _
  have h2 := flat_at xs hl _ _ hx (j % sz) (Nat.mod_lt _ hsz)
  rw [he, hj] at h2
  have h3 := hc _ _ hx (j % sz) u h2.symm
  rw [Nat.add_assoc, he] at h3
  simpa [Addr.add_lit] using h3
/-- a row of the call's own, behind a store into a block of another type -/
theorem own_kept' {w : World} {base g : Nat} {e t : TypeId} {sz n : Nat} {v : Value} {xs : List Value} {cs : Array Value} (h : w.ownsRow base e sz v n xs) (hB : Blk w g t cs) (ht : e ≠ t) (u : Value) {i : Nat} : (w.setCell ⟨g, i, none⟩ u).ownsRow base e sz v n xs := by
  refine h.kept (gb_set w g i u) ?_
  cases hv : v.ownBlock with
  | none => exact .inl rfl
  | some k => exact .inr fun e => own_blk_ne h hB ht (by rw [hv]; exact e.symm)
section
variable {α : Type} {P : Program} {w : World} {ops : Array Oper} {o : Oper} {a : Act} {rest : List Oper}
/-- a list appended to a slice of the call's own -/
theorem wpList_app {Q : Exit → Act → World → Prop} (hgd : o.guard = none) (s x : Operand) (t : TypeId) (ho : o.op = .call { callee := .builtin .append, args := #[s, x], argTypes := #[t, t] })
    (base : Nat) (e : TypeId) (sz bytes : Nat) (EI : Elem P t e sz bytes) (enc : α → List Value) (A : Option Addr) (n c : Nat) (xs : List α) (hs : a.eval s = .slice A n c)
    (hown : w.ownsRow base e sz (.slice A n c) n (xs.flatMap enc)) (ad : Addr) (m cc : Nat) (ys : List α) (hx : a.eval x = .slice (some ad) m cc) (hym : ys.length = m) (hm0 : 0 < m) (hnews : ∀ j u, (ys.flatMap enc)[j]? = some u → w.cell? (ad.add j) = some u)
    (hlen : ∀ y ∈ ys, (enc y).length = sz) (hone : ∀ y ∈ ys, ∀ u ∈ enc y, u.oneCell' = true) (hsz : 0 < sz) (hbytes : (n + m) * bytes ≤ 140737488355328) (hm : n + m ≤ maxLen) (hsize : base ≤ w.heap.size)
    (h : ∀ A' c' w', w'.ownsRow base e sz (.slice A' (n + m) c') (n + m) ((xs ++ ys).flatMap enc) → w.grownBy w' (Value.slice A n c).ownBlock →
      ((Value.slice A' (n + m) c').ownBlock = (Value.slice A n c).ownBlock ∨ (Value.slice A' (n + m) c').ownBlock = some w.heap.size) → wpList P ops Q rest (a.put o.dst (.slice A' (n + m) c')) w') : wpList P ops Q (o :: rest) a w := by
  obtain ⟨ht, i, z, hi, hz, h1, h2, hzs⟩ := EI
  refine wpList_plain hgd fun _ hK => ?_
  obtain ⟨v', w', hr, r2, r3, _, r5⟩ := run_append_own_at (P := P) w base t o.type e i z sz bytes ht hi hz h1 h2 hzs hsz _ n _ hown ad m cc (ys.flatMap enc) (by rw [flat_len ys hlen, hym]) hnews
    (fun u hu => by obtain ⟨y, hy, hu⟩ := List.mem_flatMap.1 hu; exact hone y hy u hu) hm hbytes hsize
  obtain ⟨g', cap, rfl, _, _⟩ := r2.form (by omega)
  unfold Oper.wp execOp
  simp only [ho, resolve, invoke, builtin, Sem.run_bind, Sem.run_pure, Result.andThen_ok, List.map_toArray, List.map_cons, List.map_nil, hs, hx, hr]
  exact hK _ _ (h _ _ w' (by rw [List.flatMap_append]; exact r2) r3 r5)
/-- the same, as a step of a region that draws its order -/
theorem step_app {K : Act → World → Prop} {Q : Exit → Act → World → Prop} {E : Prop} (hgd : o.guard = none) (s x : Operand) (t : TypeId) (ho : o.op = .call { callee := .builtin .append, args := #[s, x], argTypes := #[t, t] })
    (base : Nat) (e : TypeId) (sz bytes : Nat) (EI : Elem P t e sz bytes) (enc : α → List Value) (A : Option Addr) (n c : Nat) (xs : List α) (hs : a.eval s = .slice A n c)
    (hown : w.ownsRow base e sz (.slice A n c) n (xs.flatMap enc)) (ad : Addr) (m cc : Nat) (ys : List α) (hx : a.eval x = .slice (some ad) m cc) (hym : ys.length = m) (hm0 : 0 < m) (hnews : ∀ j u, (ys.flatMap enc)[j]? = some u → w.cell? (ad.add j) = some u)
    (hlen : ∀ y ∈ ys, (enc y).length = sz) (hone : ∀ y ∈ ys, ∀ u ∈ enc y, u.oneCell' = true) (hsz : 0 < sz) (hbytes : (n + m) * bytes ≤ 140737488355328) (hm : n + m ≤ maxLen) (hsize : base ≤ w.heap.size)
    (h : ∀ A' c' w', w'.ownsRow base e sz (.slice A' (n + m) c') (n + m) ((xs ++ ys).flatMap enc) → w.grownBy w' (Value.slice A n c).ownBlock → K (a.put o.dst (.slice A' (n + m) c')) w') :
    if Region.wanted o (yielded ops a.tmps) = true then Oper.wp P o a w K Q else E := by
  obtain ⟨ht, i, z, hi, hz, h1, h2, hzs⟩ := EI
  obtain ⟨v', w', hr, r2, r3, _, r5⟩ := run_append_own_at (P := P) w base t o.type e i z sz bytes ht hi hz h1 h2 hzs hsz _ n _ hown ad m cc (ys.flatMap enc) (by rw [flat_len ys hlen, hym]) hnews
    (fun u hu => by obtain ⟨y, hy, hu⟩ := List.mem_flatMap.1 hu; exact hone y hy u hu) hm hbytes hsize
  obtain ⟨g', cap, rfl, _, _⟩ := r2.form (by omega)
  have hw : Region.wanted o (yielded ops a.tmps) = true := by simp [Region.wanted, hgd]
  rw [if_pos hw]
  unfold Oper.wp execOp
  simp only [ho, resolve, invoke, builtin, Sem.run_bind, Sem.run_pure, Result.andThen_ok, List.map_toArray, List.map_cons, List.map_nil, hs, hx, hr]
  exact h _ _ w' (by rw [List.flatMap_append]; exact r2) r3
end
set_option maxHeartbeats 2000000 in
set_option maxRecDepth 100000 in
theorem l02Own_any (gb : Nat) (A : Option Addr) (n c : Nat) (rs : List Fac) (w : World) (hg : gb < w.heap.size) (hc : w.cell? ⟨gb, 0, none⟩ = some (.slice A n c)) (hn : n ≤ 1048576) (hn0 : 0 < n) (hr : Rd w w.heap.size A n 3 Fac.cells rs) :
    Calls Try.prog 66 #[.pointer (some ⟨gb, 0, none⟩)] w (RetG w rs) := by
  have hl := Lib.hid hr.len
  obtain ⟨b, o, rfl, hb, hnews⟩ := hr.news (fun x _ => fac_len x) hn0
  have HN := Lib.hid hnews; clear hnews hr
  have hh := Lib.hid (fun (W : World) (h : Below w.heap.size w W) j u (hj : (rs.flatMap Fac.cells)[j]? = some u) => ((h.cell (p := (⟨b, o, none⟩ : Addr).add j) (by simpa [Addr.add_lit] using hb)).trans (HN.out j u hj)))
  have h2 : Below w.heap.size w ((w.alloc (.cells #[.slice none 0 0] 26)).alloc (.cells #[] 82)) := by (repeat first | exact Below.refl _ _ | assumption | refine Below.drew ?_ | refine Below.alloc ?_ (by first | exact Nat.le_refl _ | (simp; done) | omega | (simp; omega)) _ | refine Below.setCell ?_ (by first | exact Nat.le_refl _ | (simp; done) | omega | (simp; omega)) _)
  have ow : ((w.alloc (.cells #[.slice none 0 0] 26)).alloc (.cells #[] 82)).ownsRow w.heap.size 82 3 (.slice (some ⟨w.heap.size + 1, 0, none⟩) 0 0) 0 (([] : List Fac).flatMap Fac.cells) := by
    simpa using World.ownsRow_made (base := w.heap.size) (e := 82) (size := 3) (w.alloc (.cells #[.slice none 0 0] 26)) #[] 0 (by simp) (by unfold maxLen; omega) rfl
  have bx := (Blk.new w 26 #[.slice none 0 0]).alloc (.cells #[] 82)
  have H2 := Lib.hid h2; have OW := Lib.hid ow; have BX := Lib.hid bx
  clear h2 ow bx
  go_enter Try.func66, Try.ntmps66
  go_wp2_with
    (at_builtin
     refine wpList_app rfl _ _ _ rfl w.heap.size 82 3 32 elem_rule Fac.cells (some ⟨w.heap.size + 1, 0, none⟩) 0 0 [] rfl OW.out ⟨b, o, none⟩ n c rs rfl hl.out hn0 (fun j u hj => hh.out _ H2.out j u hj) (fun x _ => fac_len x) (fun x _ => one_fac x) (by omega) (by omega) (by unfold maxLen; omega) (by simp; omega) ?_
     rw [Nat.zero_add, List.nil_append]
     intro A9 c9 w9 own9 hg9 hat9
     have O9 := Lib.hid own9
     have B9 := Lib.hid (H2.out.grown hg9 (by simp; omega) (fun k hk => (OW.out.lt k hk).1))
     have X9 := BX.out.grown hg9 (by simp [Value.ownBlock])
     have X9' := Lib.hid X9
     have f9 := X9.frozen
     have d9 := X9.cell 0
     have l9 := X9.lt
     clear own9 X9)
  have X10 := X9'.out.set_ 0 (.slice A9 n c9)
  have x10 : (w9.setCell ⟨w.heap.size, 0, none⟩ (.slice A9 n c9)).cell? ⟨w.heap.size, 0, none⟩ = some (.slice A9 n c9) := by rw [X10.cell 0]; rfl
  refine bodyPost_ret (v := .agg #[.slice A9 n c9]) (by simp [results, Try.results66, go_sem, x10]) rfl ⟨A9, c9, by rw [hl.out], ?_, B9.out.setCell (Nat.le_refl _) _⟩
  rw [hl.out]
  exact own_kept' O9.out X9'.out (by decide) _
end Go.Proofs.Ytgdbpkpaacbhhaa


/-
  A map whose keys are rules.
-/
namespace Go.Proofs.Ytgdbpkpaacbhhaa
open Go.RowKit Go.MapKept

section
variable {α : Type} [DecidableEq α] {P : Program} {w : World} {ops : Array Oper} {rest : List Oper} {o : Oper} {a : Act} {b : Nat} {K : α → Value} {mm : List (α × Value)} {kt t e : TypeId} {z : Value}
/-- a look-up in a map of the call's own, with the word whether there is an entry -/
theorem wpList_lookOk {Q : Exit → Act → World → Prop} (hgd : o.guard = none) (m x : Operand) (ho : o.op = .lookup t m x true) (KO : KeyOk P kt K) (ht : P.underlying t = some (.map kt e)) (hz : (zeroValue e).run P w = .ok z w) (hm : a.eval m = .map (some b)) (y : α) (hx : a.eval x = K y)
    (h : MapIs w b K mm) (hK : wpList P ops Q rest (a.put o.dst (.tuple #[(mget y mm).getD z, .bool (mget y mm).isSome])) w) : wpList P ops Q (o :: rest) a w := by
  refine wpList_plain hgd fun _ hK' => ?_
  unfold Oper.wp execOp
  simp only [ho, hm, hx, Sem.run_bind, h.lookOk KO ht hz y, Result.andThen_ok, Sem.run_pure]
  exact hK' _ _ hK
end
theorem zero_i64 (w : World) : (zeroValue 2).run Try.prog w = .ok (.int .i64 0) w := by kernel_rfl
theorem eql_rule (f g : Fac) (W : World) : (binOp .eql 82 (.agg #[.string f.l, .int .i64 f.a, .int .i64 f.b]) (.agg #[.string g.l, .int .i64 g.a, .int .i64 g.b])).run Try.prog W = .ok (.bool (decide (f = g))) W := by
  rw [eq_fac]
  simp [go_sem, tl_inj]
  try (by_cases h1 : f.l = g.l <;> by_cases h2 : f.a = g.a <;> by_cases h3 : f.b = g.b <;> simp [h1, h2, h3])
theorem equal_rule (f g : Fac) (W : World) : (Op.equal 82 f.val g.val).run Try.prog W = .ok (decide (f = g)) W := by
  have h := eql_rule f g W
  unfold binOp at h
  simp only [Sem.run_bind] at h
  unfold Fac.val
  generalize hr : Sem.run Try.prog (Op.equal 82 (.agg #[.string f.l, .int .i64 f.a, .int .i64 f.b]) (.agg #[.string g.l, .int .i64 g.a, .int .i64 g.b])) W = r at h ⊢
  cases r with
  | ok b w' =>
    simp [Result.andThen] at h
    rw [h.1, h.2]
  | _ => simp [Result.andThen] at h
theorem rule_key : KeyOk Try.prog 82 Fac.val := by
  refine ⟨fun e a w => ?_, fun a m es w he => ?_, fun a w => ?_⟩
  · have hs : ∀ n v, (Instr.checkKey e (n + 1) 9 (.string v)).run Try.prog w = .ok () w := fun n v => run_checkKey Try.underlying9 (by simp [IsKey]) e n
    have hi : ∀ n v, (Instr.checkKey e (n + 1) 2 (.int .i64 v)).run Try.prog w = .ok () w := fun n v => run_checkKey Try.underlying2 (by simp [IsKey]) e n
    unfold Fac.val
    show (Instr.checkKey e (9999 + 1) 82 _).run _ _ = _
    unfold Instr.checkKey
    simp only [Sem.run_bind, run_underlying Try.underlying82]
    have hs' := hs 9998
    have hi' := hi 9998
    simp [go_sem, hs', hi']
  · have ask : ∀ (m : List (Fac × Value)) (es : List MapEntry) (i : Nat), es.map (fun e => (e.key, e.val)) = m.map (fun p => (Fac.val p.1, p.2)) → (Instr.findAsking 82 (Fac.val a) es i).run Try.prog w = .ok (midx a m i) w := by
      intro m
      induction m with
      | nil => intro es i he; cases es with | nil => rfl | cons _ _ => simp at he
      | cons p r ih =>
        intro es i he
        cases es with
        | nil => simp at he
        | cons e es =>
          simp at he
          obtain ⟨⟨h1, h2⟩, h3⟩ := he
          unfold Instr.findAsking
          rw [h1, midx_cons]
          simp only [Sem.run_bind, equal_rule, Result.andThen_ok]
          by_cases hap : a = p.1
          · simp [hap, h2]
          · simp only [hap, decide_false, if_false, Bool.false_eq_true]
            exact ih es (i + 1) h3
    cases es with
    | nil =>
      cases m with
      | nil => simp [Instr.findKey, run_underlying Try.underlying82, Instr.findNow, midx]
      | cons _ _ => simp at he
    | cons e es =>
      have hn : Instr.findNow (TypeDesc.struct #[]) (Fac.val a) (e :: es) 0 = none := by unfold Instr.findNow Instr.sameNow; rfl
      have := ask m (e :: es) 0 he
      simp [Instr.findKey, run_underlying Try.underlying82, Instr.findNow, Instr.sameNow, Fac.val] at this ⊢
      exact this
  · have : Instr.sameBits 10000 a.val a.val = true := by
      show Instr.sameBits (9999 + 1) (.agg _) (.agg _) = true
      unfold Instr.sameBits
      simp [Instr.sameBits, beq_toListBytes, tl_beq]
    simp [Instr.keyThatStays, this]
end Go.Proofs.Ytgdbpkpaacbhhaa


/-
  The marks that the laws lay into results, and whether they are still there.
-/
namespace Go.Proofs.Ytgdbpkpaacbhhaa
open Go.RowKit

def digB (k : Nat) : UInt8 := UInt8.ofNat (48 + k % 10)
/-- the digits of a number, ahead of a text -/
def mtGo (k : Nat) (out : ByteArray) : ByteArray :=
  if 0 < k then mtGo (k / 10) ((⟨#[digB k]⟩ : ByteArray) ++ out) else out
termination_by k
decreasing_by omega
def mt (k : Nat) : ByteArray := if k = 0 then ⟨#[109, 48]⟩ else (⟨#[109]⟩ : ByteArray) ++ mtGo k ⟨#[]⟩

theorem mtGo_pos {j : Nat} (h : 0 < j) (out : ByteArray) : mtGo j out = mtGo (j / 10) ((⟨#[digB j]⟩ : ByteArray) ++ out) := by
  conv => lhs; rw [mtGo]
  rw [if_pos h]
/-- one byte as a text -/
theorem conv_one (W : World) (j c : Nat) : (convert 22 9 (.slice (some ⟨W.heap.size, 0, none⟩) 1 c)).run Try.prog (W.alloc (.cells #[.int .u8 (48 + (j : Int) % 10)] 5)) =
    .ok (.string ⟨#[digB j]⟩) (W.alloc (.cells #[.int .u8 (48 + (j : Int) % 10)] 5)) := by
  have e : ((digB j).toNat : Int) = 48 + (j : Int) % 10 := by
    unfold digB; rw [UInt8.toNat_ofNat']; omega
  refine run_convert_bytes_back (P := Try.prog) _ _ _ 5 ⟨W.heap.size, 0, none⟩ c [digB j] Try.underlying22 Try.underlying5 Try.underlying9 fun i hi => ?_
  obtain rfl : i = 0 := by simpa using hi
  rw [List.getElem_cons_zero, e]
  exact (Blk.new W 5 #[.int .u8 (48 + (j : Int) % 10)]).cell 0

theorem mtGo_size : ∀ (k : Nat) (out : ByteArray), k ≤ 100000000 → (mtGo k out).size ≤ out.size + k := by
  intro k
  induction k using Nat.strongRecOn with
  | ind k ih =>
    intro out hk
    by_cases h : 0 < k
    · rw [mtGo_pos h]
      have := ih (k / 10) (by omega) ((⟨#[digB k]⟩ : ByteArray) ++ out) (by omega)
      rw [ByteArray.size_append] at this
      have e : (⟨#[digB k]⟩ : ByteArray).size = 1 := rfl
      omega
    · rw [mtGo, if_neg h]; omega
theorem mt_size (k : Nat) (h : k ≤ 100000000) : (mt k).size ≤ 200000000 := by
  unfold mt
  split
  · show 2 ≤ _; omega
  · rw [ByteArray.size_append]
    have := mtGo_size k ⟨#[]⟩ h
    have e : (⟨#[109]⟩ : ByteArray).size = 1 := rfl
    have e2 : (⟨#[]⟩ : ByteArray).size = 0 := rfl
    omega
def strEM (s : ByteArray) : List Value := [.string s]
/-- the marks from k on -/
def marks (k : Nat) : Nat → List ByteArray
  | 0 => []
  | n + 1 => mt k :: marks (k + 1) n
theorem marks_len : ∀ (n k : Nat), (marks k n).length = n
  | 0, _ => rfl
  | n + 1, k => by simp [marks, marks_len n]
theorem marks_at : ∀ (n k i : Nat), i < n → (marks k n)[i]? = some (mt (k + i))
  | 0, _, i, h => by omega
  | n + 1, k, 0, _ => by simp [marks]
  | n + 1, k, i + 1, h => by
    rw [marks, List.getElem?_cons_succ, marks_at n (k + 1) i (by omega)]
    congr 2; omega

/-- the cells of a slice of the call's own, marked -/
theorem own_set {w : World} {base : Nat} {e : TypeId} {sz n c g : Nat} {xs : List Value} (h : w.ownsRow base e sz (.slice (some ⟨g, 0, none⟩) n c) n xs) (i : Nat) (u : Value) :
    (w.setCell ⟨g, i, none⟩ u).ownsRow base e sz (.slice (some ⟨g, 0, none⟩) n c) n (xs.set i u) := by
  exact (h.stored i u).1
end Go.Proofs.Ytgdbpkpaacbhhaa
