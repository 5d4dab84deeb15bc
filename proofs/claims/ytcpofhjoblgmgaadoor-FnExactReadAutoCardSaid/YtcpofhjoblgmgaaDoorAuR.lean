
/-
  An automaton out of its text, in the program.
-/
import Derived.Test.YtcpofhjoblgmgaaDoorAuT
namespace Go.Proofs.YtcpofhjoblgmgaaDoor
open Go.RowKit

theorem own_keptR {w : World} {base g : Nat} {e t : TypeId} {sz n : Nat} {v : Value} {xs : List Value} {cs : Array Value} (h : w.ownsRow base e sz v n xs) (hB : Blk w g t cs) (ht : e ≠ t) (u : Value) {i : Nat} : (w.setCell ⟨g, i, none⟩ u).ownsRow base e sz v n xs := by
  refine h.kept (gb_set w g i u) ?_
  cases hv : v.ownBlock with
  | none => exact .inl rfl
  | some k => exact .inr fun e => own_blk_ne h hB ht (by rw [hv]; exact e.symm)
theorem Blk.four {w : World} {g : Nat} {t : TypeId} {x y z u : Value} (h : Blk w g t #[x, y, z, u]) : w.cell? ⟨g, 0, none⟩ = some x ∧ w.cell? ⟨g, 1, none⟩ = some y ∧ w.cell? ⟨g, 2, none⟩ = some z ∧ w.cell? ⟨g, 3, none⟩ = some u := ⟨h.cell 0, h.cell 1, h.cell 2, h.cell 3⟩
theorem two_of {α : Type} : ∀ {l : List α}, l.length = 2 → ∃ a b, l = [a, b]
  | [a, b], _ => ⟨a, b, rfl⟩
/-- four cells written -/
def set4 (w : World) (g : Nat) (a b c d : Value) : World := (((w.setCell ⟨g, 0, none⟩ a).setCell ⟨g, 1, none⟩ b).setCell ⟨g, 2, none⟩ c).setCell ⟨g, 3, none⟩ d
theorem Blk.set4 {w : World} {g : Nat} {t : TypeId} {x y z u : Value} (h : Blk w g t #[x, y, z, u]) (a b c d : Value) : Blk (set4 w g a b c d) g t #[a, b, c, d] := (((h.set_ 0 a).set_ 1 b).set_ 2 c).set_ 3 d
theorem gb_set4 (w : World) (g : Nat) (a b c d : Value) : w.grownBy (set4 w g a b c d) (some g) := gb_trans (gb_trans (gb_trans (gb_set w g 0 a) (gb_set _ g 1 b)) (gb_set _ g 2 c)) (gb_set _ g 3 d)
theorem below_of_gb {w w1 w2 : World} {g : Nat} (h : Below w.heap.size w w1) (hg : w1.grownBy w2 (some g)) (hb : w.heap.size ≤ g) : Below w.heap.size w w2 := h.grown hg h.size (fun k e => by injection e with e; omega)
/-- an automaton that a call hands back in memory of its own, with a code -/
def RetAu (w0 : World) (a : AuM) (k : Int) (e : Ending) (w' : World) : Prop :=
  ∃ F cf A c hs, e = .returned (.tuple #[.agg #[.int .i64 a.s, .int .i64 a.q, .slice F a.fin.length cf, .slice A a.nx.length c], .int .i64 k]) ∧ w'.ownsRow w0.heap.size 2 1 (.slice F a.fin.length cf) a.fin.length (a.fin.flatMap intE) ∧
    TabR 22 2 intE w' w0.heap.size A a.nx.length c hs a.nx ∧ (∀ (i : Nat) (p : RowH) (g : Nat), hs[i]? = some p → (Value.slice p.A p.n p.c).ownBlock = some g → (Value.slice F a.fin.length cf).ownBlock ≠ some g) ∧ Below w0.heap.size w0 w'
def auN : AuM := ⟨0, 0, [], []⟩
def ansA (p : Option AuM × Int) : AuM × Int := (p.1.getD auN, p.2)
theorem nbI_len (x : List UInt8) : (nbI x).length ≤ x.length + 1 := by
  unfold nbI
  rw [List.length_map, List.length_drop]
  have := spl_count 32 x
  omega
/-- what ReadAuto keeps -/
structure RaW (w W : World) (gb : Nat) (S q : Int) (F : Option Addr) (nf cf : Nat) (fin : List Int) (A : Option Addr) (n c : Nat) (hs : List RowH) (nx : List (List Int)) (lb m lc : Nat) (LS : List (List UInt8)) : Prop where
  a : Blk W gb 25 #[.int .i64 S, .int .i64 q, .slice F nf cf, .slice A n c]
  r : Blk W w.heap.size 25 #[.int .i64 0, .int .i64 0, .slice none 0 0, .slice none 0 0]
  f : W.ownsRow w.heap.size 2 1 (.slice F nf cf) nf (fin.flatMap intE)
  t : TabR 22 2 intE W w.heap.size A n c hs nx
  d : ∀ (i : Nat) (p : RowH) (g : Nat), hs[i]? = some p → (Value.slice p.A p.n p.c).ownBlock = some g → (Value.slice F nf cf).ownBlock ≠ some g
  l : W.ownsRow w.heap.size 9 1 (.slice (some ⟨lb, 0, none⟩) m lc) m ((bas LS).flatMap strE)
  hg : w.heap.size < gb
  be : Below w.heap.size w W
theorem RaW.made {w W : World} {gb : Nat} {S q : Int} {F : Option Addr} {nf cf : Nat} {fin : List Int} {lb m lc : Nat} {LS : List (List UInt8)} {x y z u : Value} (ha : Blk W gb 25 #[x, y, z, u]) (hr : Blk W w.heap.size 25 #[.int .i64 0, .int .i64 0, .slice none 0 0, .slice none 0 0])
    (hf : W.ownsRow w.heap.size 2 1 (.slice F nf cf) nf (fin.flatMap intE)) (hl : W.ownsRow w.heap.size 9 1 (.slice (some ⟨lb, 0, none⟩) m lc) m ((bas LS).flatMap strE)) (hg : w.heap.size < gb) (hb : Below w.heap.size w W) :
    RaW w (set4 W gb (.int .i64 S) (.int .i64 q) (.slice F nf cf) (.slice none 0 0)) gb S q F nf cf fin none 0 0 [] [] lb m lc LS := by
  have g4 := gb_set4 W gb (.int .i64 S) (.int .i64 q) (.slice F nf cf) (.slice none 0 0)
  have ne : ∀ {e2 s2 n2 : Nat} {v2 : Value} {xs2 : List Value}, W.ownsRow w.heap.size e2 s2 v2 n2 xs2 → e2 ≠ 25 → v2.ownBlock = none ∨ v2.ownBlock ≠ some gb := fun h ht => by
    have := own_blk_ne h ha ht
    rename_i v2 _
    cases hv : v2.ownBlock with
    | none => exact .inl rfl
    | some k => exact .inr fun e => this (by rw [hv]; exact e.symm)
  exact ⟨ha.set4 _ _ _ _, hr.grown g4 (by intro e; injection e with e; omega), hf.kept g4 (ne hf (by decide)), TabR.nil _ _, fun i p g h1 => by simp at h1, hl.kept g4 (ne hl (by decide)), hg, below_of_gb hb g4 (by omega)⟩
theorem fin_le {a : AuM} (h : auB a = true) : a.fin.length ≤ 24 := by
  have hk := au_ok h
  simp only [auB, Bool.and_eq_true] at h
  have : ∀ (l : List Int) (p : Option Int) (b : Int), risB (w1 a.s) p l = true → (∀ y, p = some y → b ≤ y) → (p = none → b ≤ -1) → (l.length : Int) ≤ w1 a.s - b ∨ l = [] := by
    intro l
    induction l with
    | nil => intro _ _ _ _ _; exact .inr rfl
    | cons x r ih =>
      intro p b hr h1 h2
      simp only [risB, Bool.and_eq_true, inB, decide_eq_true_eq] at hr
      obtain ⟨⟨⟨x0, x1⟩, h3⟩, h4⟩ := hr
      have hbx : b < x := by
        rcases p with _ | y
        · have := h2 rfl; omega
        · have := h1 y rfl
          have : y < x := by simpa using h3
          omega
      left
      rcases ih (some x) x h4 (fun y hy => by injection hy with hy; omega) (fun hy => by cases hy) with h5 | h5
      · simp only [List.length_cons]; omega
      · subst h5; simp only [List.length_cons, List.length_nil]; omega
  have e : w1 a.s = a.s - 1 := IntWalk.i64_in _ (by omega)
  rcases this a.fin none (-1) h.2 (fun y hy => by cases hy) (fun _ => by omega) with h1 | h1
  · omega
  · rw [h1]; simp
theorem RaW.done {w W : World} {gb : Nat} {S q : Int} {F : Option Addr} {nf cf : Nat} {fin : List Int} {A : Option Addr} {n c : Nat} {hs : List RowH} {nx : List (List Int)} {lb m lc : Nat} {LS : List (List UInt8)} (h : RaW w W gb S q F nf cf fin A n c hs nx lb m lc LS) (hf : fin.length = nf) (hn : nx.length = n) :
    RetAu w ⟨S, q, fin, nx⟩ 0 (.returned (.tuple #[.agg #[.int .i64 S, .int .i64 q, .slice F nf cf, .slice A n c], .int .i64 0])) (set4 W w.heap.size (.int .i64 S) (.int .i64 q) (.slice F nf cf) (.slice A n c)) := by
  have g4 := gb_set4 W w.heap.size (.int .i64 S) (.int .i64 q) (.slice F nf cf) (.slice A n c)
  subst hf
  subst hn
  refine ⟨F, cf, A, c, hs, rfl, h.f.kept g4 ?_, h.t.keptB h.r g4 (by decide) (by decide), h.d, below_of_gb h.be g4 (Nat.le_refl _)⟩
  have := own_blk_ne h.f h.r (by decide)
  cases hv : (Value.slice F fin.length cf).ownBlock with
  | none => exact .inl rfl
  | some k => exact .inr fun e => this (by rw [hv]; exact e.symm)
theorem elemT : Elem Tryd.prog 23 22 1 24 := Elem.mk' (z := .slice none 0 0) Tryd.underlying23 (by kernel_rfl) rfl
section
variable {w W W' : World} {gb : Nat} {S q : Int} {F : Option Addr} {nf cf : Nat} {fin : List Int} {A : Option Addr} {n c : Nat} {hs : List RowH} {nx : List (List Int)} {lb m lc : Nat} {LS : List (List UInt8)}
theorem RaW.next (h : RaW w W gb S q F nf cf fin A n c hs nx lb m lc LS) (hb : Below W.heap.size W W') : RaW w W' gb S q F nf cf fin A n c hs nx lb m lc LS :=
  ⟨h.a.next hb, h.r.next hb, own_next h.f hb, h.t.next hb, h.d, own_next h.l hb, h.hg, h.be.trans (hb.mono h.be.size)⟩
theorem RaW.alloc (h : RaW w W gb S q F nf cf fin A n c hs nx lb m lc LS) (o : Obj) : RaW w (W.alloc o) gb S q F nf cf fin A n c hs nx lb m lc LS := h.next ((Below.refl _ _).alloc (Nat.le_refl _) o)
theorem RaW.push {A' : Option Addr} {c' : Nat} {p : RowH} {x : List Int} (h : RaW w W gb S q F nf cf fin A n c hs nx lb m lc LS) (hq : W.ownsRow w.heap.size 2 1 (.slice p.A p.n p.c) p.n (x.flatMap intE)) (hxl : x.length = p.n)
    (hfar : ∀ (i : Nat) (o : RowH) (g : Nat), hs[i]? = some o → (Value.slice o.A o.n o.c).ownBlock = some g → (Value.slice p.A p.n p.c).ownBlock ≠ some g) (hff : ∀ g, (Value.slice p.A p.n p.c).ownBlock = some g → (Value.slice F nf cf).ownBlock ≠ some g)
    (ho : W'.ownsRow w.heap.size 22 1 (.slice A' (n + 1) c') (n + 1) ((hs ++ [p]).flatMap encR)) (hg : W.grownBy W' (Value.slice A n c).ownBlock) :
    RaW w (W'.setCell ⟨gb, 3, none⟩ (.slice A' (n + 1) c')) gb S q F nf cf fin A' (n + 1) c' (hs ++ [p]) (nx ++ [x]) lb m lc LS := by
  have ha := h.a.grown hg (own_blk_ne h.t.o h.a (by decide))
  have hg2 := gb_set W' gb 3 (.slice A' (n + 1) c')
  have ht := h.t.push (by decide) hq hxl hfar ho hg
  refine ⟨ha.set_ 3 _, (h.r.grown hg (own_blk_ne h.t.o h.r (by decide))).far (p := ⟨gb, 3, none⟩) (by show w.heap.size ≠ gb; have := h.hg; omega) _, own_keptR (h.f.kept hg (own_ne h.f h.t.o (by decide))) ha (by decide) _, ht.keptB ha hg2 (by decide) (by decide), ?_,
    own_keptR (h.l.kept hg (own_ne h.l h.t.o (by decide))) ha (by decide) _, h.hg, (h.be.grown hg h.be.size (own_ge h.t.o)).setCell (p := ⟨gb, 3, none⟩) (by have := h.hg; show w.heap.size ≤ gb; omega) _⟩
  intro i o g hi h1
  have lg := h.t.lg
  by_cases hn : i < n
  · rw [List.getElem?_append_left (by omega)] at hi
    exact h.d i o g hi h1
  · have hl := (List.getElem?_eq_some_iff.1 hi).1
    rw [List.length_append, List.length_singleton] at hl
    obtain rfl : i = n := by omega
    rw [List.getElem?_append_right (by omega), lg, Nat.sub_self] at hi
    injection hi with hi
    subst hi
    exact hff g h1
end
theorem au_err {w0 W : World} (k : Int) (hb : Below w0.heap.size w0 W) : RetAu w0 auN k (.returned (.tuple #[.agg #[.int .i64 0, .int .i64 0, .slice none 0 0, .slice none 0 0], .int .i64 k])) W :=
  ⟨none, 0, none, 0, [], rfl, World.ownsRow_nil _ _ _ _, TabR.nil _ _, fun i p g h1 => by simp at h1, hb⟩
set_option maxHeartbeats 4000000 in
set_option maxRecDepth 100000 in
theorem readAutoI_any {mx : Int} {es er : Value} (s : ByteArray) (w : World) (hE : EnvR mx es er w) : Calls Tryd.prog 5 #[.string s] w (RetAu w (ansA (ansI s)).1 (ansA (ansI s)).2) := by
  have HE := Lib.hid (fun (W : World) (h : Below w.heap.size w W) => hE.next h)
  clear hE
  have Z0 := Lib.hid (Blk.new w 25 #[.int .i64 0, .int .i64 0, .slice none 0 0, .slice none 0 0])
  have zb := Lib.hid (show Below w.heap.size w (w.alloc (.cells #[.int .i64 0, .int .i64 0, .slice none 0 0, .slice none 0 0] 25)) from by (repeat first | exact Below.refl _ _ | assumption | refine Below.drew ?_ | refine Below.alloc ?_ (by first | exact Nat.le_refl _ | (simp; done) | omega | (simp; omega)) _ | refine Below.setCell ?_ (by first | exact Nat.le_refl _ | (simp; done) | omega | (simp; omega)) _))
  by_cases h2 : 2000 < s.size
  · have i1 : (2000 : Int) < (s.size : Int) := by omega
    have e1 := Lib.hid (show ansA (ansI s) = (auN, 2) by unfold ansI; rw [if_pos h2]; rfl)
    obtain ⟨z0, z1, z2, z3⟩ := Z0.out.four
    have zf := Z0.out.frozen
    have zl := Z0.out.lt
    go_enter Tryd.func5, Tryd.ntmps5
    go_wp2_with fail
    rw [e1.out]
    exact bodyPost_ret (v := .tuple #[.agg #[.int .i64 0, .int .i64 0, .slice none 0 0, .slice none 0 0], .int .i64 2]) (by simp [results, Tryd.results5, go_sem, z0, z1, z2, z3]) rfl (au_err 2 zb.out)
  have i1 : ¬ (2000 : Int) < (s.size : Int) := by omega
  have e1 := Lib.hid (show ansI s = (match rdAI (spl 10 s.data.toList) with | none => (none, 5) | some a => if auB a = true ∧ auT a = s.data.toList then (some a, 0) else (none, 5)) by unfold ansI; rw [if_neg h2]; rfl)
  have hcnt := spl_count 10 s.data.toList
  rw [len_byteR] at hcnt
  have hpos := List.length_pos_iff.2 (spl_ne 10 s.data.toList)
  have hsm := Lib.hid (fun x hx => by have h := spl_small 10 s.data.toList x hx; rw [len_byteR] at h; exact h)
  have SPc := Lib.hid (fun W (h : Below w.heap.size w W) => splitC_any s 10 W (HE.out W h) (by omega))
  generalize spl 10 s.data.toList = LS at *
  have hbl : (bas LS).length = LS.length := by unfold bas; simp
  obtain ⟨m, hm⟩ : ∃ m, LS.length = m := ⟨_, rfl⟩
  have NB := Lib.hid (fun (x : List UInt8) (hx : x ∈ LS) W (h : Below w.heap.size w W) => nbI_any x W (HE.out W h) (by have := hsm.out x hx; omega))
  go_enter Tryd.func5, Tryd.ntmps5
  go_wp2_with fail
  refine (SPc.out _ zb.out).mono ?_
  rintro e w1 ⟨A1, c1, rfl, own1, hb1⟩
  rw [hbl, hm] at own1 ⊢
  obtain ⟨lb, rfl, hlB, hlb, hcap, RL⟩ := pieces_at (hbl.trans hm) (by omega) own1
  have L1 := Lib.hid (own1.mono zb.out.size)
  have R1 := Lib.hid (Z0.out.next hb1)
  have b1 := Lib.hid (zb.out.trans (hb1.mono zb.out.size))
  have RL := Lib.hid RL
  obtain ⟨x0, hx0⟩ : ∃ x, LS[0]? = some x := ⟨_, List.getElem?_eq_getElem (by omega)⟩
  have N0 := Lib.hid (NB.out x0 (List.mem_of_getElem? hx0) w1 b1.out)
  have l0 := RL.out 0 x0 hx0
  have m0 : (0 : Int) < (m : Int) := by omega
  clear own1 hb1 SPc Z0 zb
  go_wp2_with fail
  refine N0.out.mono ?_
  rintro e w4 ⟨Ah, ch, rfl, ownh, hbh⟩
  have b4 := Lib.hid (b1.out.trans (hbh.mono b1.out.size))
  have L4 := Lib.hid (own_next L1.out hbh)
  have R4 := Lib.hid (R1.out.next hbh)
  have Oh := Lib.hid ownh
  have hrd : rdAI LS = if LS.length < 3 ∨ (nbI x0).length ≠ 2 then none else some ⟨(nbI x0).getD 0 0, (nbI x0).getD 1 0, nbI (LS.getD 1 []), ((LS.drop 2).dropLast).map nbI⟩ := by
    have : LS.getD 0 [] = x0 := by rw [List.getD_eq_getElem?_getD, hx0]; rfl
    unfold rdAI
    rw [this]
  have HRd := Lib.hid hrd
  generalize nbI x0 = HN at *
  obtain ⟨hn, hhn⟩ : ∃ hn, HN.length = hn := ⟨_, rfl⟩
  rw [hhn] at Oh ⊢
  obtain ⟨r0, r1, r2, r3⟩ := R4.out.four
  have rf := R4.out.frozen
  have rl := R4.out.lt
  clear ownh hbh l0 hrd L1 R1 N0
  by_cases hc : m < 3 ∨ hn ≠ 2
  · have e2 := Lib.hid (show ansA (ansI s) = (auN, 5) by rw [e1.out, HRd.out, if_pos (by rw [hm, hhn]; exact hc)]; rfl)
    clear e1 HRd
    rcases (show m < 3 ∨ (¬ m < 3 ∧ hn ≠ 2) by omega) with h3 | ⟨h3, h4⟩
    · have j1 : (m : Int) < 3 := by omega
      go_wp2_with fail
      rw [e2.out]
      obtain ⟨q0, q1, q2, q3⟩ := (R4.out.set4 (.int .i64 0) (.int .i64 0) (.slice none 0 0) (.slice none 0 0)).four
      unfold set4 at q0 q1 q2 q3
      exact bodyPost_ret (v := .tuple #[.agg #[.int .i64 0, .int .i64 0, .slice none 0 0, .slice none 0 0], .int .i64 5]) (by simp [results, Tryd.results5, go_sem, q0, q1, q2, q3]) rfl (au_err 5 ((below_of_gb b4.out (gb_set4 w4 w.heap.size (.int .i64 0) (.int .i64 0) (.slice none 0 0) (.slice none 0 0))) (Nat.le_refl _)))
    · have j1 : ¬ (m : Int) < 3 := by omega
      have j2 : ¬ (hn : Int) = 2 := by omega
      go_wp2_with fail
      rotate_left
      · have hx2 := (show (3 : Int) ≤ (m : Int) ∧ ((hn : Int) != 2) = false by assumption).2
        simp at hx2
        omega
      rw [e2.out]
      obtain ⟨q0, q1, q2, q3⟩ := (R4.out.set4 (.int .i64 0) (.int .i64 0) (.slice none 0 0) (.slice none 0 0)).four
      unfold set4 at q0 q1 q2 q3
      exact bodyPost_ret (v := .tuple #[.agg #[.int .i64 0, .int .i64 0, .slice none 0 0, .slice none 0 0], .int .i64 5]) (by simp [results, Tryd.results5, go_sem, q0, q1, q2, q3]) rfl (au_err 5 ((below_of_gb b4.out (gb_set4 w4 w.heap.size (.int .i64 0) (.int .i64 0) (.slice none 0 0) (.slice none 0 0))) (Nat.le_refl _)))
  · have h3 : 3 ≤ m := by omega
    have h4 : hn = 2 := by omega
    subst h4
    obtain ⟨h0, h1, rfl⟩ := two_of hhn
    obtain ⟨x1, hx1⟩ : ∃ x, LS[1]? = some x := ⟨_, List.getElem?_eq_getElem (by omega)⟩
    have HRd2 := Lib.hid (show rdAI LS = some ⟨h0, h1, nbI x1, ((LS.drop 2).dropLast).map nbI⟩ by
      rw [HRd.out, if_neg (by rw [hm]; simp; omega)]
      have : LS.getD 1 [] = x1 := by rw [List.getD_eq_getElem?_getD, hx1]; rfl
      rw [this]; rfl)
    clear HRd
    obtain ⟨hb_, hcap_, hvv, _, hbl_⟩ := Oh.out.form (by omega)
    obtain rfl : Ah = some ⟨hb_, 0, none⟩ := by injection hvv
    have y0 : w4.cell? ⟨hb_, 0, none⟩ = some (.int .i64 h0) := by rw [Oh.out.cellAt 0 (by omega)]; rfl
    have y1 : w4.cell? ⟨hb_, 1, none⟩ = some (.int .i64 h1) := by rw [Oh.out.cellAt 1 (by omega)]; rfl
    obtain ⟨lb', hlA, hlB4, _, _, RL4⟩ := pieces_at (w := w) (hbl.trans hm) (by omega) L4.out
    obtain rfl : lb = lb' := by injection hlA with hlA; injection hlA
    have y2 := RL4 1 x1 hx1
    have NB1 := Lib.hid (fun W (h : Below w4.heap.size w4 W) => NB.out x1 (List.mem_of_getElem? hx1) W (b4.out.trans (h.mono b4.out.size)))
    generalize (⟨x1.toArray⟩ : ByteArray) = t1 at *
    have HS := Lib.hid (fun W (h : Below w4.heap.size w4 W) => show W.cell? ⟨hb_, 0, none⟩ = some (.int .i64 h0) ∧ W.cell? ⟨hb_, 1, none⟩ = some (.int .i64 h1) ∧ W.cell? ⟨lb, 1, none⟩ = some (.string t1) from
      ⟨(h.cell (p := ⟨hb_, 0, none⟩) hbl_).trans y0, (h.cell (p := ⟨hb_, 1, none⟩) hbl_).trans y1, (h.cell (p := ⟨lb, 1, none⟩) hlB4).trans y2⟩)
    have j1 : decide ((m : Int) < 3) = false := decide_eq_false (by omega)
    have j3 : (1 : Int) < (m : Int) := by omega
    generalize hfin : nbI x1 = fin at *
    obtain ⟨nf, hnf⟩ : ∃ nf, fin.length = nf := ⟨_, rfl⟩
    have hx1m := List.mem_of_getElem? hx1
    clear r0 r1 r2 r3 rf rl y0 y1 y2 RL4 hvv hlA
    go_upto_region 7 with fail
    go_cut [6] (fun a_ wx => ∃ (ga : Nat) (F : Option Addr) (cf : Nat), a_ = .pointer (some ⟨ga, 0, none⟩) ∧ Hid (RaW w wx ga h0 h1 F nf cf fin none 0 0 [] [] lb m c1 LS))
    case first =>
        refine wp_region_N (fun W => W.cell? ⟨hb_, 0, none⟩ = some (.int .i64 h0) ∧ W.cell? ⟨hb_, 1, none⟩ = some (.int .i64 h1) ∧ W.cell? ⟨lb, 1, none⟩ = some (.string t1)) [12] (by kernel_rfl) ?_
        have c0 : Below w4.heap.size w4 w4.drew := (Below.refl _ _).drew
        have hS0 := HS.out _ c0
        generalize w4.drew = wd at *
        refine wpAnyN_take (i := 0) (v := ?_) rfl (by kernel_rfl) (fun _ _ _ h => h) (by rfl) (fun W hW => ?_) hS0 ?_
        rotate_left
        · obtain ⟨z0, z1, z2⟩ := hW
          go_simp
          try with_reducible rfl
        try simp only [List.getElem_toArray, List.getElem_cons_zero, List.getElem_cons_succ, Act.put, List.setIfInBounds_toArray, List.set_cons_zero, List.set_cons_succ]
        refine wpAnyN_take (i := 1) (v := ?_) rfl (by kernel_rfl) (fun _ _ _ h => h) (by rfl) (fun W hW => ?_) hS0 ?_
        rotate_left
        · obtain ⟨z0, z1, z2⟩ := hW
          go_simp
          try with_reducible rfl
        try simp only [List.getElem_toArray, List.getElem_cons_zero, List.getElem_cons_succ, Act.put, List.setIfInBounds_toArray, List.set_cons_zero, List.set_cons_succ]
        refine wpAnyN_take (i := 2) (v := ?_) rfl (by kernel_rfl) (fun _ _ _ h => h) (by rfl) (fun W hW => ?_) hS0 ?_
        rotate_left
        · obtain ⟨z0, z1, z2⟩ := hW
          go_simp
          try with_reducible rfl
        try simp only [List.getElem_toArray, List.getElem_cons_zero, List.getElem_cons_succ, Act.put, List.setIfInBounds_toArray, List.set_cons_zero, List.set_cons_succ]
        refine wpAnyN_take (i := 3) (v := ?_) rfl (by kernel_rfl) (fun _ _ _ h => h) (by rfl) (fun W hW => ?_) hS0 ?_
        rotate_left
        · obtain ⟨z0, z1, z2⟩ := hW
          go_simp
          try with_reducible rfl
        try simp only [List.getElem_toArray, List.getElem_cons_zero, List.getElem_cons_succ, Act.put, List.setIfInBounds_toArray, List.set_cons_zero, List.set_cons_succ]
        refine wpAnyN_take (i := 4) (v := ?_) rfl (by kernel_rfl) (fun _ _ _ h => h) (by rfl) (fun W hW => ?_) hS0 ?_
        rotate_left
        · obtain ⟨z0, z1, z2⟩ := hW
          go_simp
          try with_reducible rfl
        try simp only [List.getElem_toArray, List.getElem_cons_zero, List.getElem_cons_succ, Act.put, List.setIfInBounds_toArray, List.set_cons_zero, List.set_cons_succ]
        refine wpAnyN_take (i := 5) (v := ?_) rfl (by kernel_rfl) (fun _ _ _ h => h) (by rfl) (fun W hW => ?_) hS0 ?_
        rotate_left
        · obtain ⟨z0, z1, z2⟩ := hW
          go_simp
          try with_reducible rfl
        try simp only [List.getElem_toArray, List.getElem_cons_zero, List.getElem_cons_succ, Act.put, List.setIfInBounds_toArray, List.set_cons_zero, List.set_cons_succ]
        refine wpAnyN_take (i := 6) (v := ?_) rfl (by kernel_rfl) (fun _ _ _ h => h) (by rfl) (fun W hW => ?_) hS0 ?_
        rotate_left
        · obtain ⟨z0, z1, z2⟩ := hW
          go_simp
          try with_reducible rfl
        try simp only [List.getElem_toArray, List.getElem_cons_zero, List.getElem_cons_succ, Act.put, List.setIfInBounds_toArray, List.set_cons_zero, List.set_cons_succ]
        refine wpAnyN_take (i := 7) (v := ?_) rfl (by kernel_rfl) (fun _ _ _ h => h) (by rfl) (fun W hW => ?_) hS0 ?_
        rotate_left
        · obtain ⟨z0, z1, z2⟩ := hW
          go_simp
          try with_reducible rfl
        try simp only [List.getElem_toArray, List.getElem_cons_zero, List.getElem_cons_succ, Act.put, List.setIfInBounds_toArray, List.set_cons_zero, List.set_cons_succ]
        refine wpAnyN_take (i := 8) (v := ?_) rfl (by kernel_rfl) (fun _ _ _ h => h) (by rfl) (fun W hW => ?_) hS0 ?_
        rotate_left
        · obtain ⟨z0, z1, z2⟩ := hW
          go_simp
          try with_reducible rfl
        try simp only [List.getElem_toArray, List.getElem_cons_zero, List.getElem_cons_succ, Act.put, List.setIfInBounds_toArray, List.set_cons_zero, List.set_cons_succ]
        clear hS0
        refine wpAnyN_2 (i := 9) (j := 11) rfl rfl (by kernel_rfl) ?_ ?_
        · intro Kc hK
          go_simp
          go_wp2_with (go_at_call 14; refine (NB1.out wd c0).mono ?_; rintro e wf ⟨F, cf, rfl, ownf, hbf⟩; rw [hnf] at ownf ⊢)
          have Of := Lib.hid (ownf.mono c0.size)
          have cf_ : Below w4.heap.size w4 wf := c0.trans (hbf.mono c0.size)
          clear ownf
          refine hK.out _ _ (fun _ => HS.out _ cf_) ?_
          clear hK Kc
          try simp only [List.getElem_toArray, List.getElem_cons_zero, List.getElem_cons_succ, Act.put, List.setIfInBounds_toArray, List.set_cons_zero, List.set_cons_succ]
          have hS1 := HS.out _ cf_
          refine wpAnyN_take (i := 10) (v := ?_) rfl (by kernel_rfl) (fun _ _ _ h => h) (by rfl) (fun W hW => ?_) hS1 ?_
          rotate_left
          · obtain ⟨z0, z1, z2⟩ := hW
            go_simp
            try with_reducible rfl
          try simp only [List.getElem_toArray, List.getElem_cons_zero, List.getElem_cons_succ, Act.put, List.setIfInBounds_toArray, List.set_cons_zero, List.set_cons_succ]
          clear hS1
          refine wpAnyN_next (i := 11) rfl (by kernel_rfl) (fun Kc hK => ?_)
          go_simp
          have ca_ : Below w4.heap.size w4 (wf.alloc (.cells #[.int .i64 0, .int .i64 0, .slice none 0 0, .slice none 0 0] 25)) := cf_.alloc cf_.size _
          have GA := Lib.hid (Blk.new wf 25 #[.int .i64 0, .int .i64 0, .slice none 0 0, .slice none 0 0])
          have Of2 := Lib.hid (Of.out.alloc (.cells #[.int .i64 0, .int .i64 0, .slice none 0 0, .slice none 0 0] 25))
          have hgl := cf_.size
          obtain ⟨wa, hwa⟩ : ∃ x, x = wf.alloc (.cells #[.int .i64 0, .int .i64 0, .slice none 0 0, .slice none 0 0] 25) := ⟨_, rfl⟩
          obtain ⟨ga, hga⟩ : ∃ x, x = wf.heap.size := ⟨_, rfl⟩
          rw [← hga] at GA hgl
          rw [← hwa] at ca_ GA Of2
          rw [← hwa, ← hga]
          clear hwa hga
          refine hK.out _ _ (fun _ => HS.out _ ca_) ?_
          clear hK Kc
          try simp only [List.getElem_toArray, List.getElem_cons_zero, List.getElem_cons_succ, Act.put, List.setIfInBounds_toArray, List.set_cons_zero, List.set_cons_succ]
          obtain ⟨g0, g1, g2, g3⟩ := GA.out.four
          have gf := GA.out.frozen
          have gl := GA.out.lt
          refine wpAnyN_next (i := 12) rfl (by kernel_rfl) (fun Kc hK => ?_)
          go_simp
          refine hK.out _ _ (fun h => absurd h (by decide)) ?_
          clear hK Kc
          try simp only [List.getElem_toArray, List.getElem_cons_zero, List.getElem_cons_succ, Act.put, List.setIfInBounds_toArray, List.set_cons_zero, List.set_cons_succ]
          refine wpAnyN_done (by kernel_rfl) ?_ _
          go_wp2_with fail
          go_meet
          exact ⟨ga, F, cf, rfl, Lib.hid (RaW.made GA.out (R4.out.next ca_) (Of2.out.mono b4.out.size) (own_next L4.out ca_) (by have := R4.out.lt; omega) (b4.out.trans (ca_.mono b4.out.size)))⟩
        · intro Kc hK
          go_simp
          have ca_ : Below w4.heap.size w4 (wd.alloc (.cells #[.int .i64 0, .int .i64 0, .slice none 0 0, .slice none 0 0] 25)) := c0.alloc c0.size _
          have GA0 := Lib.hid (Blk.new wd 25 #[.int .i64 0, .int .i64 0, .slice none 0 0, .slice none 0 0])
          have hgl := c0.size
          obtain ⟨wa, hwa⟩ : ∃ x, x = wd.alloc (.cells #[.int .i64 0, .int .i64 0, .slice none 0 0, .slice none 0 0] 25) := ⟨_, rfl⟩
          obtain ⟨ga, hga⟩ : ∃ x, x = wd.heap.size := ⟨_, rfl⟩
          rw [← hga] at GA0 hgl
          rw [← hwa] at ca_ GA0
          rw [← hwa, ← hga]
          clear hwa hga
          refine hK.out _ _ (fun _ => HS.out _ ca_) ?_
          clear hK Kc
          try simp only [List.getElem_toArray, List.getElem_cons_zero, List.getElem_cons_succ, Act.put, List.setIfInBounds_toArray, List.set_cons_zero, List.set_cons_succ]
          refine wpAnyN_next (i := 9) rfl (by kernel_rfl) (fun Kc hK => ?_)
          go_simp
          go_wp2_with (go_at_call 14; refine (NB1.out wa ca_).mono ?_; rintro e wf ⟨F, cf, rfl, ownf, hbf⟩; rw [hnf] at ownf ⊢)
          have Of := Lib.hid (ownf.mono ca_.size)
          have cf_ : Below w4.heap.size w4 wf := ca_.trans (hbf.mono ca_.size)
          have GA := Lib.hid (GA0.out.next hbf)
          clear ownf
          refine hK.out _ _ (fun _ => HS.out _ cf_) ?_
          clear hK Kc
          try simp only [List.getElem_toArray, List.getElem_cons_zero, List.getElem_cons_succ, Act.put, List.setIfInBounds_toArray, List.set_cons_zero, List.set_cons_succ]
          have hS1 := HS.out _ cf_
          refine wpAnyN_take (i := 10) (v := ?_) rfl (by kernel_rfl) (fun _ _ _ h => h) (by rfl) (fun W hW => ?_) hS1 ?_
          rotate_left
          · obtain ⟨z0, z1, z2⟩ := hW
            go_simp
            try with_reducible rfl
          try simp only [List.getElem_toArray, List.getElem_cons_zero, List.getElem_cons_succ, Act.put, List.setIfInBounds_toArray, List.set_cons_zero, List.set_cons_succ]
          clear hS1
          obtain ⟨g0, g1, g2, g3⟩ := GA.out.four
          have gf := GA.out.frozen
          have gl := GA.out.lt
          refine wpAnyN_next (i := 12) rfl (by kernel_rfl) (fun Kc hK => ?_)
          go_simp
          refine hK.out _ _ (fun h => absurd h (by decide)) ?_
          clear hK Kc
          try simp only [List.getElem_toArray, List.getElem_cons_zero, List.getElem_cons_succ, Act.put, List.setIfInBounds_toArray, List.set_cons_zero, List.set_cons_succ]
          refine wpAnyN_done (by kernel_rfl) ?_ _
          go_wp2_with fail
          go_meet
          exact ⟨ga, F, cf, rfl, Lib.hid (RaW.made GA.out (R4.out.next cf_) (Of.out.mono b4.out.size) (own_next L4.out cf_) (by have := R4.out.lt; omega) (b4.out.trans (cf_.mono b4.out.size)))⟩
    case rest =>
      obtain ⟨ga, F, cf, rfl, P⟩ := hcut
      clear HS NB1 j1 j3 R4 L4 Oh b4 hbl_
      obtain ⟨M, hM⟩ : ∃ M, m = M + 3 := ⟨m - 3, by omega⟩
      have k0 : IntKind.i64.wrap ((m : Int) - 1) = (m : Int) - 1 := IntWalk.i64_in _ (by omega)
      have k1 : (2 : Int) ≤ (m : Int) - 1 := by omega
      have k2 : (m : Int) - 1 ≤ (c1 : Int) := by omega
      have k3 : ¬ c1 = 2 := by omega
      have k4 : (m : Int) - 1 - 2 = (M : Int) := by omega
      have k5 : ((m : Int) - 1).toNat - 2 = M := by omega
      have hMd : (LS.drop 2).length = M + 1 := by rw [List.length_drop]; omega
      have hlen : ∀ (i : Nat) (x : List UInt8), (LS.drop 2)[i]? = some x → LS[2 + i]? = some x ∧ x ∈ LS := fun i x hx => by
        rw [List.getElem?_drop] at hx
        exact ⟨hx, List.mem_of_getElem? hx⟩
      have HL2 := Lib.hid hlen
      have hdl : ((LS.drop 2).dropLast) = (LS.drop 2).take M := by rw [List.dropLast_eq_take, hMd]; rfl
      rw [hdl] at HRd2
      have NBl := Lib.hid (fun x => nbI_len x)
      clear hlen hdl hlB hlb hcap hx0 hx1 hM
      go_wp2_with fail
      go_loopw [45] (fun i_ w' => ∃ (i : Nat) (A : Option Addr) (c : Nat) (hs : List RowH), i_ = .int .i64 i ∧ i ≤ M ∧ Hid (RaW w w' ga h0 h1 F nf cf fin A i c hs (((LS.drop 2).take i).map nbI) lb m c1 LS)) (fun i_ _ => M - (intOf i_).toNat)
      case atStart => exact ⟨0, none, 0, [], rfl, by omega, by simpa using P⟩
      case round =>
        obtain ⟨i, A, c, hs, rfl, hi, HP⟩ := hrel
        clear P
        by_cases hlt : i < M
        · obtain ⟨x, hx⟩ : ∃ x, (LS.drop 2)[i]? = some x := ⟨_, List.getElem?_eq_getElem (by omega)⟩
          obtain ⟨hx2, hxm⟩ := HL2.out i x hx
          obtain ⟨lb', hlA, hlBr, _, _, RLr⟩ := pieces_at (w := w) (hbl.trans hm) (by omega) HP.out.l
          obtain rfl : lb = lb' := by injection hlA with hlA; injection hlA
          have l0 := RLr (2 + i) x hx2
          have hsn := Lib.hid (show ((LS.drop 2).take (i + 1)).map nbI = ((LS.drop 2).take i).map nbI ++ [nbI x] by rw [List.take_add_one, hx]; simp)
          have NX := Lib.hid (fun W (h : Below wr.heap.size wr W) => NB.out x hxm W (HP.out.be.trans (h.mono HP.out.be.size)))
          have i0 : (0 : Int) ≤ (i : Int) := by omega
          have i2 : (i : Int) < (M : Int) := by omega
          obtain ⟨rn, hrn⟩ : ∃ rn, (nbI x).length = rn := ⟨_, rfl⟩
          have hrn2 := NBl.out x
          have hxs := hsm.out x hxm
          generalize (⟨x.toArray⟩ : ByteArray) = tx_ at *
          generalize nbI x = row at *
          have HRn := Lib.hid hrn
          have xl := HP.out.a.lt
          have hge := HP.out.hg
          have HS := Lib.hid (fun W (h : Below wr.heap.size wr W) => show W.cell? ⟨ga, 3, none⟩ = some (.slice A i c) from (HP.out.a.next h).cell 3)
          clear RLr hlA hx hx2 hxm hrn hrn2
          go_upto_region 11 with fail
          refine wp_region_N (fun W => W.cell? ⟨ga, 3, none⟩ = some (.slice A i c)) [7] (by kernel_rfl) ?_
          have c0 : Below wr.heap.size wr wr.drew := (Below.refl _ _).drew
          have hS0 := HS.out _ c0
          have P0 := Lib.hid (HP.out.next c0)
          generalize wr.drew = wd at *
          refine wpAnyN_take (i := 0) (v := ?_) rfl (by kernel_rfl) (fun _ _ _ h => h) (by rfl) (fun W hW => ?_) hS0 ?_
          rotate_left
          · have z0 := hW
            go_simp
            try with_reducible rfl
          try simp only [List.getElem_toArray, List.getElem_cons_zero, List.getElem_cons_succ, Act.put, List.setIfInBounds_toArray, List.set_cons_zero, List.set_cons_succ]
          refine wpAnyN_take (i := 1) (v := ?_) rfl (by kernel_rfl) (fun _ _ _ h => h) (by rfl) (fun W hW => ?_) hS0 ?_
          rotate_left
          · have z0 := hW
            go_simp
            try with_reducible rfl
          try simp only [List.getElem_toArray, List.getElem_cons_zero, List.getElem_cons_succ, Act.put, List.setIfInBounds_toArray, List.set_cons_zero, List.set_cons_succ]
          refine wpAnyN_take (i := 2) (v := ?_) rfl (by kernel_rfl) (fun _ _ _ h => h) (by rfl) (fun W hW => ?_) hS0 ?_
          rotate_left
          · have z0 := hW
            go_simp
            try with_reducible rfl
          try simp only [List.getElem_toArray, List.getElem_cons_zero, List.getElem_cons_succ, Act.put, List.setIfInBounds_toArray, List.set_cons_zero, List.set_cons_succ]
          clear hS0
          refine wpAnyN_next (i := 3) rfl (by kernel_rfl) (fun Kc hK => ?_)
          go_simp
          go_wp2_with (go_at_call 14; refine (NX.out wd c0).mono ?_; rintro e w6 ⟨rA, rc, rfl, own6, hb6⟩; rw [HRn.out] at own6 ⊢)
          have c6 : Below wr.heap.size wr w6 := c0.trans (hb6.mono c0.size)
          have O6 := Lib.hid own6
          have P6 := Lib.hid (P0.out.next hb6)
          clear own6
          refine hK.out _ _ (fun _ => HS.out _ c6) ?_
          clear hK Kc
          try simp only [List.getElem_toArray, List.getElem_cons_zero, List.getElem_cons_succ, Act.put, List.setIfInBounds_toArray, List.set_cons_zero, List.set_cons_succ]
          refine wpAnyN_next (i := 4) rfl (by kernel_rfl) (fun Kc hK => ?_)
          go_simp
          have c7 : Below wr.heap.size wr (w6.alloc (.cells #[.slice rA rn rc] 22)) := c6.alloc c6.size _
          have P7 := Lib.hid (P6.out.alloc (.cells #[.slice rA rn rc] 22))
          have O7 := Lib.hid (O6.out.alloc (.cells #[.slice rA rn rc] 22))
          refine hK.out _ _ (fun _ => HS.out _ c7) ?_
          clear hK Kc
          try simp only [List.getElem_toArray, List.getElem_cons_zero, List.getElem_cons_succ, Act.put, List.setIfInBounds_toArray, List.set_cons_zero, List.set_cons_succ]
          refine wpAnyN_next (i := 5) rfl (by kernel_rfl) (fun Kc hK => ?_)
          refine step_push (by rfl) _ _ _ (by rfl) w.heap.size 22 1 24 elemT encR A i c hs (by rfl) P7.out.t.o w6.heap.size (⟨rA, rn, rc⟩ : RowH) #[.slice rA rn rc] 22 (0, 0) (by rfl) (heap_alloc_new _ _) rfl rfl (by simp [encR, Value.oneCell']) (by omega) (by omega) (by unfold maxLen; omega) P7.out.be.size ?_
          intro A8 cc8 w8 own8 hg8 _
          have hfar := P0.out.t.fresh (q := ⟨rA, rn, rc⟩) O6.out (Nat.le_refl _)
          have hff : ∀ g, (Value.slice rA rn rc).ownBlock = some g → (Value.slice F nf cf).ownBlock ≠ some g := fun g h1 h2 => by
            have e1 := (P0.out.f.lt g h2).2
            have e2 := (O6.out.lt g h1).1
            omega
          have P8 := Lib.hid (P7.out.push (p := ⟨rA, rn, rc⟩) (O7.out.mono P0.out.be.size) HRn.out hfar hff own8 hg8)
          have a8 := Lib.hid (P7.out.a.grown hg8 (own_blk_ne P7.out.t.o P7.out.a (by decide)))
          clear own8 hg8 hfar hff c6 O6 P6 c7 P7 O7
          refine hK.out _ _ (fun _ => a8.out.cell 3) ?_
          clear hK Kc
          try simp only [List.getElem_toArray, List.getElem_cons_zero, List.getElem_cons_succ, Act.put, List.setIfInBounds_toArray, List.set_cons_zero, List.set_cons_succ]
          have g0 := a8.out.cell 3
          have gf := a8.out.frozen 3
          have gl := a8.out.lt
          refine wpAnyN_next (i := 6) rfl (by kernel_rfl) (fun Kc hK => ?_)
          go_simp
          refine hK.out _ _ (fun _ => a8.out.cell 3) ?_
          clear hK Kc
          try simp only [List.getElem_toArray, List.getElem_cons_zero, List.getElem_cons_succ, Act.put, List.setIfInBounds_toArray, List.set_cons_zero, List.set_cons_succ]
          refine wpAnyN_next (i := 7) rfl (by kernel_rfl) (fun Kc hK => ?_)
          go_simp
          refine hK.out _ _ (fun h => absurd h (by decide)) ?_
          clear hK Kc
          try simp only [List.getElem_toArray, List.getElem_cons_zero, List.getElem_cons_succ, Act.put, List.setIfInBounds_toArray, List.set_cons_zero, List.set_cons_succ]
          refine wpAnyN_done (by kernel_rfl) ?_ _
          go_wp2_with fail
          go_roundw
          case rel => exact ⟨i + 1, A8, _, _, by go_num, by omega, Lib.hid (by rw [hsn.out]; exact P8.out)⟩
          case measure => simp [intOf]; omega
        · obtain rfl : i = M := by omega
          have i2 : ¬ (i : Int) < (i : Int) := by omega
          have hNXl : (((LS.drop 2).take i).map nbI).length = i := by rw [List.length_map, List.length_take]; omega
          have HSz := Lib.hid (show ∀ r ∈ ((LS.drop 2).take i).map nbI, r.length ≤ 1048576 from fun r hr => by
            obtain ⟨x, hx, rfl⟩ := List.mem_map.1 hr
            have h1 := hsm.out x (List.mem_of_mem_drop (List.mem_of_mem_take hx))
            have h2 := NBl.out x
            omega)
          generalize ((LS.drop 2).take i).map nbI = NX at *
          have RT := Lib.hid (HP.out.t.rd (fun _ => rfl))
          have RF := Lib.hid (Rd.of_own (enc := intE) (fun _ _ => rfl) hnf HP.out.f)
          have hnf1 : nf ≤ 4000 := by have := NBl.out x1; have := hsm.out x1 hx1m; rw [hfin] at *; omega
          have VA := Lib.hid (validAuto_any h0 h1 F nf cf fin A i c hs NX wr (by omega) (by omega) RF.out RT.out HSz.out _ rfl)
          have HT9 := Lib.hid (HE.out wr HP.out.be).ht
          have e3 := Lib.hid (show ansI s = if auB ⟨h0, h1, fin, NX⟩ = true ∧ auT ⟨h0, h1, fin, NX⟩ = s.data.toList then (some ⟨h0, h1, fin, NX⟩, 0) else (none, 5) by rw [e1.out, HRd2.out])
          obtain ⟨a0, a1, a2, a3⟩ := HP.out.a.four
          have al := HP.out.a.lt
          obtain ⟨r0, r1, r2, r3⟩ := HP.out.r.four
          have rf := HP.out.r.frozen
          have rl := HP.out.r.lt
          clear hsm NBl HRd2 NB e1 HL2
          rcases hav : auB ⟨h0, h1, fin, NX⟩ with _ | _
          · rw [hav] at VA
            have e4 := Lib.hid (show ansA (ansI s) = (auN, 5) by rw [e3.out, if_neg (by rw [hav]; simp)]; rfl)
            clear e3 hav
            go_wp2_with fail
            refine VA.out.mono ?_
            rintro e w5 ⟨rfl, hb5⟩
            have P5 := Lib.hid (HP.out.next hb5)
            clear r0 r1 r2 r3 rf rl a0 a1 a2 a3 al hb5
            obtain ⟨r0, r1, r2, r3⟩ := P5.out.r.four
            have rf := P5.out.r.frozen
            have rl := P5.out.r.lt
            go_wp2_with fail
            rw [e4.out]
            obtain ⟨q0, q1, q2, q3⟩ := (P5.out.r.set4 (.int .i64 0) (.int .i64 0) (.slice none 0 0) (.slice none 0 0)).four
            unfold set4 at q0 q1 q2 q3
            exact bodyPost_ret (v := .tuple #[.agg #[.int .i64 0, .int .i64 0, .slice none 0 0, .slice none 0 0], .int .i64 5]) (by simp [results, Tryd.results5, go_sem, q0, q1, q2, q3]) rfl (au_err 5 ((below_of_gb P5.out.be (gb_set4 w5 w.heap.size (.int .i64 0) (.int .i64 0) (.slice none 0 0) (.slice none 0 0))) (Nat.le_refl _)))
          · rw [hav] at VA
            have TX := Lib.hid (fun W (h : Below wr.heap.size wr W) => autoText_any h0 h1 F nf cf fin A i c hs NX W (by obtain ⟨_, _, hfi, _, _⟩ := au_ok hav; have := fin_le hav; have : fin.length ≤ 24 := this; omega) (RF.out.next h) (RT.out.next h) hav (tab_up HT9.out h))
            have e4 := Lib.hid (show ansI s = if autS ⟨h0, h1, fin, NX⟩ = s then (some ⟨h0, h1, fin, NX⟩, 0) else (none, 5) by
              rw [e3.out]
              by_cases h : auT ⟨h0, h1, fin, NX⟩ = s.data.toList
              · rw [if_pos ⟨hav, h⟩, if_pos (by unfold autS; rw [h]; exact bt_data s)]
              · rw [if_neg (fun q => h q.2), if_neg (fun q => h (by rw [← q]; rfl))])
            generalize autS ⟨h0, h1, fin, NX⟩ = T at *
            clear e3 hav
            go_wp2_with fail
            refine VA.out.mono ?_
            rintro e w5 ⟨rfl, hb5⟩
            have P5 := Lib.hid (HP.out.next hb5)
            have TX5 := Lib.hid (TX.out w5 hb5)
            clear r0 r1 r2 r3 rf rl a0 a1 a2 a3 al hb5
            obtain ⟨a0, a1, a2, a3⟩ := P5.out.a.four
            have al := P5.out.a.lt
            go_wp2_with fail
            refine TX5.out.mono ?_
            rintro e w6 ⟨rfl, hb6⟩
            have P6 := Lib.hid (P5.out.next hb6)
            clear a0 a1 a2 a3 al hb6 P5
            obtain ⟨a0, a1, a2, a3⟩ := P6.out.a.four
            have al := P6.out.a.lt
            obtain ⟨r0, r1, r2, r3⟩ := P6.out.r.four
            have rf := P6.out.r.frozen
            have rl := P6.out.r.lt
            by_cases hT : T = s
            · have e5 := Lib.hid (show ansA (ansI s) = (⟨h0, h1, fin, NX⟩, 0) by rw [e4.out, if_pos hT]; rfl)
              clear e4
              subst hT
              go_wp2_with fail
              rw [e5.out]
              obtain ⟨q0, q1, q2, q3⟩ := (P6.out.r.set4 (.int .i64 h0) (.int .i64 h1) (.slice F nf cf) (.slice A i c)).four
              unfold set4 at q0 q1 q2 q3
              have HD := RaW.done P6.out hnf hNXl
              exact bodyPost_ret (v := .tuple #[.agg #[.int .i64 h0, .int .i64 h1, .slice F nf cf, .slice A i c], .int .i64 0]) (by simp [results, Tryd.results5, go_sem, q0, q1, q2, q3]) rfl HD
            · have hTl : (T.toList == s.toList) = false := by rw [tl_beq]; simpa using hT
              have hTn : ¬ T.toList = s.toList := by rw [tl_inj]; exact hT
              have e5 := Lib.hid (show ansA (ansI s) = (auN, 5) by rw [e4.out, if_neg hT]; rfl)
              clear e4 hT
              go_wp2_with fail
              rw [e5.out]
              obtain ⟨q0, q1, q2, q3⟩ := (P6.out.r.set4 (.int .i64 0) (.int .i64 0) (.slice none 0 0) (.slice none 0 0)).four
              unfold set4 at q0 q1 q2 q3
              exact bodyPost_ret (v := .tuple #[.agg #[.int .i64 0, .int .i64 0, .slice none 0 0, .slice none 0 0], .int .i64 5]) (by simp [results, Tryd.results5, go_sem, q0, q1, q2, q3]) rfl (au_err 5 ((below_of_gb P6.out.be (gb_set4 w6 w.heap.size (.int .i64 0) (.int .i64 0) (.slice none 0 0) (.slice none 0 0))) (Nat.le_refl _)))
end Go.Proofs.YtcpofhjoblgmgaaDoor
