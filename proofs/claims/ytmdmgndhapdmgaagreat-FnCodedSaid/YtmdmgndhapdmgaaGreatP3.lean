/-
  Texts of this claim, merged: MapI MdS MtS Lett SmS CdS CdP StrS IdxS CdL.
-/
import Derived.Test.YtmdmgndhapdmgaaGreatP2


/-
  The letters of a grammar replaced: the small functions.
-/
namespace Go.Proofs.YtmdmgndhapdmgaaGreat
open Go.RowKit

set_option maxHeartbeats 2000000 in
set_option maxRecDepth 100000 in
theorem raised_any (A : Option Addr) (n c : Nat) (rs : List Fac) (by_ : Int) (w : World) (hn : n ≤ 100000) (hr : Rd w w.heap.size A n 3 Fac.cells rs) (hwf : WF rs) (h0 : 0 ≤ by_) (h1 : by_ ≤ 1048576) :
    Calls Tryz.prog 35 #[.slice A n c, .int .i64 by_] w (RetNew w 72 3 Fac.cells (raiseL by_ rs)) := by
  have hl := Lib.hid hr.len
  have HR := Lib.hid hr; clear hr
  have HW := Lib.hid hwf; clear hwf
  go_enter Tryz.func35, Tryz.ntmps35
  go_wp2_with fail
  go_loopw [5, 11] (fun o_ i_ w' => ∃ (k : Nat) (A' : Option Addr) (c' : Nat), i_ = .int .i64 k ∧ o_ = .slice A' k c' ∧ k ≤ n ∧
      Hid (w'.ownsRow w.heap.size 72 3 (.slice A' k c') k ((raiseL by_ (rs.take k)).flatMap Fac.cells)) ∧ Below w.heap.size w w') (fun _ i_ _ => n - (intOf i_).toNat)
  case atStart =>
    exact ⟨0, _, 0, rfl, rfl, by omega, Lib.hid (by simpa [raiseL] using World.ownsRow_made (base := w.heap.size) (e := 72) (size := 3) w #[] 0 (by simp) (by unfold maxLen; omega) rfl), by (repeat first | exact Below.refl _ _ | assumption | refine Below.drew ?_ | refine Below.alloc ?_ (by first | exact Nat.le_refl _ | (simp; done) | omega | (simp; omega)) _ | refine Below.setCell ?_ (by first | exact Nat.le_refl _ | (simp; done) | omega | (simp; omega)) _)⟩
  case round =>
    obtain ⟨k, A', c', rfl, rfl, hk, hown, hb⟩ := hrel
    by_cases hlt : k < n
    · obtain ⟨b, o, x, rfl, hB, gx, c0, c1, c2⟩ := (HR.out.next hb).fac hlt
      have Hst := Lib.hid (show raiseL by_ (rs.take (k + 1)) = raiseL by_ (rs.take k) ++ [rsF by_ x] by rw [take_succ_at gx]; simp [raiseL])
      rcases HW.out k x gx with ⟨h0', ha0, ha1, hb0, hb1⟩ | ⟨cc, hcc, hxl, hxa, hxb⟩
      · have Hy := Lib.hid (show rsF by_ x = ⟨x.l, x.a + by_, x.b + by_⟩ by unfold rsF; rw [if_pos h0'])
        have Hp := Lib.hid (show isP x = true by simp [isP, h0'])
        have i0 : (0 : Int) ≤ (k : Int) := by omega
        clear gx h0'
        go_wp2_with fail
        refine (isPair_any x true _ Hp.out).mono ?_
        rintro e w1 ⟨rfl, hb1'⟩
        have B1 := Lib.hid ((Blk.new wr 72 #[.string x.l, .int .i64 x.a, .int .i64 x.b]).next hb1')
        have b1 := (hb.alloc hb.size _).trans (hb1'.mono (by have := hb.size; simp; omega))
        have own1 := Lib.hid (own_next (hown.out.alloc _) hb1')
        have hz1 : w.heap.size ≤ wr.heap.size := hb.size
        obtain ⟨d0, d1, d2⟩ := B1.out.three
        have lx := B1.out.lt
        have fx := B1.out.frozen
        have B2 := Lib.hid ((B1.out.set_ 1 (.int .i64 (x.a + by_))).set_ 2 (.int .i64 (x.b + by_)))
        have hgm := gb_setCell (gb_set w1 wr.heap.size 1 (.int .i64 (x.a + by_))) 2 (.int .i64 (x.b + by_))
        have own2 := Lib.hid (own1.out.kept hgm (by
          cases hv : (Value.slice A' k c').ownBlock with
          | none => exact .inl rfl
          | some q => exact .inr fun e => by injection e with e; have := (hown.out.lt q hv).2; omega))
        have b2 := (b1.setCell (p := ⟨wr.heap.size, 1, none⟩) hz1 (.int .i64 (x.a + by_))).setCell (p := ⟨wr.heap.size, 2, none⟩) hz1 (.int .i64 (x.b + by_))
        obtain ⟨e0, e1, e2⟩ := B2.out.three
        have BN0 := Blk.new ((w1.setCell ⟨wr.heap.size, 1, none⟩ (.int .i64 (x.a + by_))).setCell ⟨wr.heap.size, 2, none⟩ (.int .i64 (x.b + by_))) 72 #[.string x.l, .int .i64 (x.a + by_), .int .i64 (x.b + by_)]
        rw [show ((w1.setCell ⟨wr.heap.size, 1, none⟩ (.int .i64 (x.a + by_))).setCell ⟨wr.heap.size, 2, none⟩ (.int .i64 (x.b + by_))).heap.size = w1.heap.size by simp] at BN0
        have BN := Lib.hid BN0
        clear hgm BN0
        go_wp2_with
          (at_builtin
           refine wpList_push (w0 := w) rfl _ _ _ rfl w.heap.size 72 3 32 elem_rule Fac.cells _ k c' (raiseL by_ (rs.take k)) rfl (own2.out.alloc _) w1.heap.size ⟨x.l, x.a + by_, x.b + by_⟩ #[.string x.l, .int .i64 (x.a + by_), .int .i64 (x.b + by_)] 72 (0, 0) rfl BN.out rfl rfl (one_fac _) (by omega) (by omega) (by unfold maxLen; omega) rfl (b2.alloc b2.size _) ?_
           intro A9 c9 w9 own9 hg9 hat9 hb9
           have O9 := Lib.hid own9; clear own9)
        go_roundw
        case rel =>
          refine ⟨k + 1, A9, c9, by go_num, rfl, by omega, Lib.hid ?_, hb9⟩
          rw [Hst.out, Hy.out]; exact O9.out
        case measure => simp [intOf]; omega
      · have Hy := Lib.hid (show rsF by_ x = x by unfold rsF; rw [if_neg (by rw [hxl]; show ¬ (1 : Nat) = 0; omega)])
        have Hp := Lib.hid (show isP x = false by unfold isP; rw [hxl]; rfl)
        clear hxl hxa hxb gx
        go_wp2_with fail
        refine (isPair_any x false _ Hp.out).mono ?_
        rintro e w1 ⟨rfl, hb1'⟩
        have B1 := Lib.hid ((Blk.new wr 72 #[.string x.l, .int .i64 x.a, .int .i64 x.b]).next hb1')
        have b1 := (hb.alloc hb.size _).trans (hb1'.mono (by have := hb.size; simp; omega))
        have own1 := Lib.hid (own_next (hown.out.alloc _) hb1')
        obtain ⟨d0, d1, d2⟩ := B1.out.three
        go_wp2_with
          (at_builtin
           refine wpList_push (w0 := w) rfl _ _ _ rfl w.heap.size 72 3 32 elem_rule Fac.cells _ k c' (raiseL by_ (rs.take k)) rfl (own1.out.alloc _) _ x #[.string x.l, .int .i64 x.a, .int .i64 x.b] 72 (0, 0) rfl (heap_alloc_new _ _) rfl rfl (one_fac _) (by omega) (by omega) (by unfold maxLen; omega) rfl (b1.alloc b1.size _) ?_
           intro A9 c9 w9 own9 hg9 hat9 hb9
           have O9 := Lib.hid own9; clear own9)
        go_roundw
        case rel =>
          refine ⟨k + 1, A9, c9, by go_num, rfl, by omega, Lib.hid ?_, hb9⟩
          rw [Hst.out, Hy.out]; exact O9.out
        case measure => simp [intOf]; omega
    · have hkn : k = n := by omega
      have e := Lib.hid (show rs.take k = rs from List.take_of_length_le (by rw [hl.out]; omega))
      clear hkn
      have hk2 : k = n := by omega
      have hl2 := Lib.hid (show (raiseL by_ rs).length = k by rw [raiseL_len, hl.out]; omega)
      clear hk2
      go_wp2_with fail
      go_ret
      refine ⟨A', c', ret_slice (by rw [hl2.out]), ?_, hb⟩
      rw [hl2.out]
      have := hown.out
      rw [e.out] at this; exact this
theorem raisedL_any (A : Option Addr) (n c : Nat) (rs : List Fac) (by_ : Int) (w : World) (hn : n ≤ 100000) (hr : Rd w w.heap.size A n 3 Fac.cells rs) (hwf : WF rs) (h0 : 0 ≤ by_) (h1 : by_ ≤ 1048576) :
    Calls Tryz.prog 35 #[.slice A n c, .int .i64 by_] w fun e w' => ∃ A' c', e = .returned (.slice A' n c') ∧ w'.ownsRow w.heap.size 72 3 (.slice A' n c') n ((raiseL by_ rs).flatMap Fac.cells) ∧ Below w.heap.size w w' := by
  have hl : (raiseL by_ rs).length = n := by rw [raiseL_len, hr.len]
  refine (raised_any A n c rs by_ w hn hr hwf h0 h1).mono ?_
  rintro e w' ⟨A', c', he, ho, hb⟩
  rw [hl] at he ho
  exact ⟨A', c', he, ho, hb⟩
set_option maxHeartbeats 1000000 in
theorem l02Raised_any (x : Fac) (by_ : Int) (w : World) (hx : x.l.size = 0 → 0 ≤ x.a ∧ x.a ≤ 1048576 ∧ 0 ≤ x.b ∧ x.b ≤ 1048576) (h0 : 0 ≤ by_) (h1 : by_ ≤ 1048576) :
    Calls Tryz.prog 75 #[x.val, .int .i64 by_] w (Ret (rsF by_ x).val w) := by
  unfold Fac.val
  by_cases h : x.l.size = 0
  · have Hy := Lib.hid (show rsF by_ x = ⟨x.l, x.a + by_, x.b + by_⟩ by unfold rsF; rw [if_pos h])
    have e0 := size0 h
    obtain ⟨q0, q1, q2, q3⟩ := hx h
    rw [Hy.out]
    clear hx h
    go_enter Tryz.func75, Tryz.ntmps75
    go_wp2_with fail
    refine bodyPost_ret (v := .agg #[.string x.l, .int .i64 (x.a + by_), .int .i64 (x.b + by_)]) (by simp [results, Tryz.results75, go_sem]) rfl ⟨rfl, ?_⟩
    (repeat first | exact Below.refl _ _ | assumption | refine Below.drew ?_ | refine Below.alloc ?_ (by first | exact Nat.le_refl _ | (simp; done) | omega | (simp; omega)) _ | refine Below.setCell ?_ (by first | exact Nat.le_refl _ | (simp; done) | omega | (simp; omega)) _)
  · have Hy := Lib.hid (show rsF by_ x = x by unfold rsF; rw [if_neg h])
    have e0 := size1 h
    have e1 := size1' h
    rw [Hy.out]
    clear hx h
    go_enter Tryz.func75, Tryz.ntmps75
    go_wp2_with fail
    refine bodyPost_ret (v := .agg #[.string x.l, .int .i64 x.a, .int .i64 x.b]) (by simp [results, Tryz.results75, go_sem]) rfl ⟨rfl, ?_⟩
    (repeat first | exact Below.refl _ _ | assumption | refine Below.drew ?_ | refine Below.alloc ?_ (by first | exact Nat.le_refl _ | (simp; done) | omega | (simp; omega)) _ | refine Below.setCell ?_ (by first | exact Nat.le_refl _ | (simp; done) | omega | (simp; omega)) _)
end Go.Proofs.YtmdmgndhapdmgaaGreat


/-
  What stands for a letter and for a pair, in the reference.
-/
namespace Go.Proofs.YtmdmgndhapdmgaaGreat
open Go.RowKit

theorem keepcM {w w' : World} {r : Option Nat} {p : Addr} {v : Value} (hg : w.grownBy w' r) (h : w.cell? p = some v) (hne : some p.block ≠ r) : w'.cell? p = some v := (World.cell?_of_block (hg.block _ (cell_lt h) hne)).trans h
/-- what a call that writes through the box M at a row leaves -/
structure MkF (W W' : World) (M : Nat) (v v' : Value) : Prop where
  os : W'.os = W.os
  tape : W'.tape = W.tape
  output : W'.output = W.output
  size : W.heap.size ≤ W'.heap.size
  kept : ∀ x, x < W.heap.size → x ≠ M → some x ≠ v.ownBlock → W'.heap[x]? = W.heap[x]?
  row : v'.ownBlock = v.ownBlock ∨ ∀ x, v'.ownBlock = some x → W.heap.size ≤ x
section
variable {W W' W'' : World} {M base n : Nat} {e : TypeId} {sz : Nat} {xs : List Value} {v v' v'' u : Value}
theorem MkF.refl (W : World) (M : Nat) (v : Value) : MkF W W M v v := ⟨rfl, rfl, rfl, Nat.le_refl _, fun _ _ _ _ => rfl, .inl rfl⟩
theorem MkF.of_below (hb : Below W.heap.size W W') : MkF W W' M v v := ⟨hb.os, hb.tape, hb.output, hb.size, fun x hx _ _ => hb.block x hx, .inl rfl⟩
theorem MkF.trans (h1 : MkF W W' M v v') (h2 : MkF W' W'' M v' v'') : MkF W W'' M v v'' := by
  refine ⟨h2.os.trans h1.os, h2.tape.trans h1.tape, h2.output.trans h1.output, Nat.le_trans h1.size h2.size, fun x hx hM hv => ?_, ?_⟩
  · refine (h2.kept x (Nat.lt_of_lt_of_le hx h1.size) hM ?_).trans (h1.kept x hx hM hv)
    rcases h1.row with h | h
    · rw [h]; exact hv
    · intro e; have := h x e.symm; omega
  · rcases h2.row with h | h
    · rcases h1.row with h' | h'
      · exact .inl (h.trans h')
      · exact .inr fun x hx => h' x (by rw [← h]; exact hx)
    · exact .inr fun x hx => Nat.le_trans h1.size (h x hx)
theorem MkF.next (h1 : MkF W W' M v v') (hb : Below W'.heap.size W' W'') : MkF W W'' M v v' := h1.trans (MkF.of_below hb)
theorem MkF.own (h : MkF W W' M v v') (ho : W.ownsRow base e sz u n xs) (h1 : u.ownBlock ≠ some M) (h2 : ∀ g, u.ownBlock = some g → some g ≠ v.ownBlock) : W'.ownsRow base e sz u n xs := by
  refine ⟨ho.1, ?_⟩
  rcases ho.2 with hn | ⟨g, cap, cur, rfl, hg, hh, r⟩
  · exact .inl hn
  · exact .inr ⟨g, cap, cur, rfl, hg, (h.kept g (ho.lt g rfl).2 (fun e => h1 (by rw [← e]; rfl)) (h2 g rfl)).trans hh, r⟩
theorem MkF.blk {g : Nat} {t : TypeId} {cs : Array Value} (h : MkF W W' M v v') (hB : Blk W g t cs) (h1 : g ≠ M) (h2 : some g ≠ v.ownBlock) : Blk W' g t cs := (h.kept g hB.lt h1 h2).trans hB
theorem MkF.below (h : MkF W W' M v v') (hM : base ≤ M) (hv : ∀ g, v.ownBlock = some g → base ≤ g) (hb : base ≤ W.heap.size) : Below base W W' :=
  ⟨h.os, h.tape, h.output, h.size, fun x hx => h.kept x (by omega) (by omega) (fun e => by have := hv x e.symm; omega)⟩
/-- a row grown, and its slice told to the box -/
theorem MkF.push {i : Nat} (hg : W.grownBy W' v.ownBlock) (hat : v'.ownBlock = v.ownBlock ∨ v'.ownBlock = some W.heap.size) : MkF W (W'.setCell ⟨M, i, none⟩ u) M v v' := by
  have g2 := gb_set W' M i u
  refine ⟨g2.os.trans hg.os, g2.tape.trans hg.tape, g2.output.trans hg.output, Nat.le_trans hg.size g2.size, fun x hx hM hv => ?_, ?_⟩
  · exact (g2.block x (Nat.lt_of_lt_of_le hx hg.size) (fun e => hM (by injection e))).trans (hg.block x hx hv)
  · rcases hat with h | h
    · exact .inl h
    · exact .inr fun x hx => by rw [h] at hx; injection hx with hx; omega
end
/-- what a call through the made grammar's box leaves -/
def MdP (base MB : Nat) (A : Option Addr) (n c : Nat) (P : Value) (w : World) (p : List Fac × Int) (e : Ending) (w' : World) : Prop :=
  ∃ A' c', e = .returned (.int .i64 p.2) ∧ Blk w' MB 85 #[.slice A' p.1.length c', P] ∧ w'.ownsRow base 72 3 (.slice A' p.1.length c') p.1.length (p.1.flatMap Fac.cells) ∧ MkF w w' MB (.slice A n c) (.slice A' p.1.length c')
set_option maxHeartbeats 1000000 in
theorem pairM_any (base MB : Nat) (A : Option Addr) (n c : Nat) (P : Value) (out : List Fac) (l r : Int) (w : World) (hn : n ≤ 1000000) (hl : out.length = n) (hbase : base ≤ w.heap.size) (hB : Blk w MB 85 #[.slice A n c, P]) (ho : w.ownsRow base 72 3 (.slice A n c) n (out.flatMap Fac.cells)) :
    Calls Tryz.prog 44 #[.pointer (some ⟨MB, 0, none⟩), .int .i64 l, .int .i64 r] w (MdP base MB A n c P w (prM out l r)) := by
  have hm0 := hB.lt
  have c0 := hB.cell 0
  have HB := Lib.hid hB; have HO := Lib.hid ho
  clear hB ho
  by_cases h1 : l < 0
  · have E := Lib.hid (show prM out l r = (out, r) by unfold prM; rw [if_pos h1])
    have HL := Lib.hid hl; clear hl
    go_enter Tryz.func44, Tryz.ntmps44
    go_wp2_with fail
    go_ret
    rw [E.out]
    exact ⟨A, c, rfl, by rw [HL.out]; exact HB.out, by rw [HL.out]; exact HO.out, by rw [HL.out]; exact MkF.refl _ _ _⟩
  by_cases h2 : r < 0
  · have E := Lib.hid (show prM out l r = (out, l) by unfold prM; rw [if_neg h1, if_pos h2])
    have HL := Lib.hid hl; clear hl
    go_enter Tryz.func44, Tryz.ntmps44
    go_wp2_with fail
    go_ret
    rw [E.out]
    exact ⟨A, c, rfl, by rw [HL.out]; exact HB.out, by rw [HL.out]; exact HO.out, by rw [HL.out]; exact MkF.refl _ _ _⟩
  · have E := Lib.hid (show prM out l r = (out ++ [⟨⟨#[]⟩, l, r⟩], (n : Int)) by unfold prM; rw [if_neg h1, if_neg h2, hl])
    have HL := Lib.hid (show (out ++ [(⟨⟨#[]⟩, l, r⟩ : Fac)]).length = n + 1 by rw [List.length_append, hl]; rfl)
    have u1 : IntKind.i64.wrap (((n + 1 : Nat) : Int) - 1) = (n : Int) := by rw [IntWalk.i64_in _ (by omega)]; omega
    clear hl
    have B1 := Lib.hid (HB.out.alloc (.cells #[.string ⟨#[]⟩, .int .i64 l, .int .i64 r] 72))
    have O1 := Lib.hid (own_next HO.out ((Below.refl _ _).alloc (Nat.le_refl _) (.cells #[.string ⟨#[]⟩, .int .i64 l, .int .i64 r] 72)))
    go_enter Tryz.func44, Tryz.ntmps44
    go_wp2_with
      (at_builtin
       refine wpList_pushG rfl _ _ _ rfl base 72 3 32 elem_rule Fac.cells A n c out rfl O1.out w.heap.size (⟨⟨#[]⟩, l, r⟩ : Fac) #[.string ⟨#[]⟩, .int .i64 l, .int .i64 r] 72 (0, 0) rfl (heap_alloc_new _ _) rfl rfl (one_fac _) (by omega) (by omega) (by unfold maxLen; omega) (by simp; omega) ?_
       intro A8 c8 w8 own8 hg8 at8
       have B8 := Lib.hid (B1.out.grown hg8 (own_blk_ne O1.out B1.out (by decide)))
       have b80 := B8.out.cell 0
       have b8l := B8.out.lt
       have b8f := B8.out.frozen 0
       have OK8 := Lib.hid own8
       have HG8 := Lib.hid hg8
       have HA8 := Lib.hid at8
       have B9 := Lib.hid (B8.out.set_ 0 (.slice A8 (n + 1) c8))
       have b90 := B9.out.cell 0
       have b9l := B9.out.lt
       have O9 := Lib.hid (own_kept' own8 B8.out (by decide) (i := 0) (.slice A8 (n + 1) c8))
       clear own8 hg8 at8)
    go_ret
    rw [E.out]
    refine ⟨A8, c8, rfl, by rw [HL.out]; exact B9.out, by rw [HL.out]; exact O9.out, ?_⟩
    rw [HL.out]
    exact (MkF.of_below ((Below.refl _ _).alloc (Nat.le_refl _) _)).trans (MkF.push HG8.out HA8.out)
set_option maxHeartbeats 4000000 in
set_option maxRecDepth 100000 in
theorem standM_any (base MB : Nat) (A : Option Addr) (n c : Nat) (P : Value) (out : List Fac) (t : ByteArray) (w : World) (hn : n ≤ 1000000) (hl : out.length = n) (hok : okW t = true) (h6 : t.size ≤ 6) (hbase : base ≤ w.heap.size) (hB : Blk w MB 85 #[.slice A n c, P]) (ho : w.ownsRow base 72 3 (.slice A n c) n (out.flatMap Fac.cells)) :
    Calls Tryz.prog 43 #[.pointer (some ⟨MB, 0, none⟩), .string t] w (MdP base MB A n c P w (wdM out t)) := by
  have hm0 := hB.lt
  have HB := Lib.hid hB; have HO := Lib.hid ho
  clear hB ho
  by_cases h0 : t.size = 0
  · have E := Lib.hid (show wdM out t = (out, -1) by unfold wdM; rw [if_pos h0])
    have e0 := size0 h0
    have HL := Lib.hid hl; clear hl
    go_enter Tryz.func43, Tryz.ntmps43
    go_wp2_with fail
    go_ret
    rw [E.out]
    exact ⟨A, c, rfl, by rw [HL.out]; exact HB.out, by rw [HL.out]; exact HO.out, by rw [HL.out]; exact MkF.refl _ _ _⟩
  · have e0 := size1 h0
    have e1 := size1' h0
    obtain ⟨pl, hpl⟩ : ∃ pl, plainL t.data.toList = pl := ⟨_, rfl⟩
    have E := Lib.hid (show wdM out t = (out ++ raiseL (n : Int) pl, ((n + pl.length : Nat) : Int) - 1) by unfold wdM; rw [if_neg h0, hl, hpl])
    have HLn := Lib.hid (show (out ++ raiseL (n : Int) pl).length = n + pl.length by rw [List.length_append, raiseL_len, hl])
    have hpn : pl.length ≤ 10 := by
      have h1 := plainL_len t.data.toList
      have h2 : t.data.toList.length = t.size := byte_len t
      rw [hpl] at h1; omega
    have HWF := Lib.hid (show WF pl by
      rw [← hpl]; refine wf_plain ?_
      unfold okW at hok; simp only [Bool.and_eq_true] at hok; exact hok.2)
    have PL := Lib.hid (fun W => show Calls Tryz.prog 74 #[.string t] W (RetG W pl) from by have h := l02Plain_any t W hok; rw [hpl] at h; exact h)
    clear hpl hok h0
    go_enter Tryz.func43, Tryz.ntmps43
    go_wp2_with fail
    refine (PL.out _).mono ?_
    rintro e w1 ⟨pA, pc, rfl, hpo, hb1⟩
    obtain ⟨m, hm⟩ : ∃ m, pl.length = m := ⟨_, rfl⟩
    rw [hm] at hpo hpn HLn ⊢
    have B1 := Lib.hid (HB.out.next hb1)
    have hbs1 := hb1.size
    have b10 := (B1.out.alloc (.cells #[.slice pA m pc] 31)).cell 0
    have b1l := (B1.out.alloc (.cells #[.slice pA m pc] 31)).lt
    go_upto_region 5 with fail
    refine named fun w2 H2 => ?_
    have hb12 : Below w1.heap.size w1 w2 := by rw [H2.out]; exact (Below.refl _ _).alloc (Nat.le_refl _) _
    have B2 := Lib.hid (show Blk w2 MB 85 #[.slice A n c, P] from B1.out.next hb12)
    have G2 := Lib.hid (show Blk w2 w1.heap.size 31 #[.slice pA m pc] by rw [H2.out]; exact Blk.new _ _ _)
    have P2 := Lib.hid (own_next hpo hb12)
    have O2 := Lib.hid (own_next (own_next HO.out hb1) hb12)
    have F2 := Lib.hid (show MkF w w2 MB (.slice A n c) (.slice A n c) from MkF.of_below (hb1.trans (hb12.mono hb1.size)))
    have hpge := Lib.hid (fun g (h : (Value.slice pA m pc).ownBlock = some g) => show w.heap.size ≤ g ∧ g < w2.heap.size from ⟨(hpo.lt g h).1, Nat.lt_of_lt_of_le (hpo.lt g h).2 hb12.size⟩)
    have hold := Lib.hid (fun g (h : (Value.slice A n c).ownBlock = some g) => (HO.out.lt g h).2)
    have hG1 : w1.heap.size < w2.heap.size := G2.out.lt
    have hMw : MB < w.heap.size := HB.out.lt
    have hwG : w.heap.size ≤ w1.heap.size := hbs1
    obtain ⟨GB, hGB⟩ : ∃ GB, w1.heap.size = GB := ⟨_, rfl⟩
    rw [hGB] at G2 hG1 hwG ⊢
    have HPL := Lib.hid hm
    have HOL := Lib.hid hl
    have hbs2 : base ≤ w2.heap.size := by omega
    clear H2 hpo hb1 hb12 HO HB B1 b10 b1l hbs1 hGB PL e0 e1 hm hl
    go_wp2_with fail
    go_loopw [7] (fun i_ w' => ∃ (i : Nat) (A' : Option Addr) (n' c' : Nat), i_ = .int .i64 i ∧ i ≤ m ∧ n' ≤ n + i ∧ Hid (n' = n + i) ∧ Hid (Blk w' MB 85 #[.slice A' n' c', P]) ∧ Hid (w'.ownsRow base 72 3 (.slice A' n' c') n' ((out ++ (raiseL (n : Int) pl).take i).flatMap Fac.cells)) ∧ Hid (MkF w2 w' MB (.slice A n c) (.slice A' n' c'))) (fun i_ _ => m - (intOf i_).toNat)
    case atStart => exact ⟨0, A, n, c, rfl, by omega, by omega, Lib.hid rfl, B2, by simpa using O2, Lib.hid (MkF.refl _ _ _)⟩
    case round =>
      obtain ⟨i, A', n', c', rfl, hi, hn', HN', HB, HO, HF⟩ := hrel
      clear B2 O2
      have hGv : some GB ≠ (Value.slice A n c).ownBlock := fun e => by have := hold.out GB e.symm; omega
      have G3 := Lib.hid (HF.out.blk G2.out (by omega) hGv)
      have hPP := Lib.hid (show ∀ g, (Value.slice pA m pc).ownBlock = some g → some g ≠ (Value.slice A n c).ownBlock from fun g hg e => by have h1 := hold.out g e.symm; have h2 := (hpge.out g hg).1; omega)
      have P3 := Lib.hid (HF.out.own P2.out (fun e => by have := (hpge.out MB e).1; omega) hPP.out)
      have hPA := Lib.hid (show ∀ g, (Value.slice pA m pc).ownBlock = some g → some g ≠ (Value.slice A' n' c').ownBlock from fun g hg e => by
        rcases HF.out.row with h | h
        · rw [h] at e; exact hPP.out g hg e
        · have h1 := h g e.symm; have h2 := (hpge.out g hg).2; omega)
      have hbsW := HF.out.size
      have g0 := G3.out.cell 0
      have gl := G3.out.lt
      have m0 := HB.out.cell 0
      have ml := HB.out.lt
      by_cases hlt : i < m
      · obtain ⟨x, gx⟩ : ∃ x, pl[i]? = some x := ⟨_, List.getElem?_eq_getElem (by rw [HPL.out]; exact hlt)⟩
        have HTk := Lib.hid (show (raiseL (n : Int) pl).take (i + 1) = (raiseL (n : Int) pl).take i ++ [rsF (n : Int) x] from take_snoc (by unfold raiseL; rw [List.getElem?_map, gx]; rfl))
        have RX := Lib.hid (fun W => l02Raised_any x (n : Int) W (fun h0 => by
          rcases HWF.out i x gx with ⟨_, q1, q2, q3, q4⟩ | ⟨cc, _, hl, _⟩
          · omega
          · rw [hl] at h0; cases h0) (by omega) (by omega))
        have PR := Lib.hid (Rd.of_own (enc := Fac.cells) (fun _ _ => rfl) HPL.out P3.out)
        obtain ⟨pb, po, x', rfl, hpB, gx', c0, c1, c2⟩ := PR.out.fac hlt
        obtain rfl : x = x' := Option.some.inj (gx.symm.trans gx')
        have hpo0 : po = 0 := by
          obtain ⟨g, cap, hv, _, _⟩ := P3.out.form (by omega)
          injection hv with hv; injection hv with hv; injection hv
        subst hpo0
        have hpv : some pb ≠ (Value.slice A' n' c').ownBlock := hPA.out pb rfl
        have hgv := own_blk_ne HO.out G3.out (by decide)
        generalize rsF (n : Int) x = y at *
        have HS := Lib.hid (fun (W : World) (h : Below wr.heap.size wr W) => show W.cell? ⟨MB, 0, none⟩ = some (.slice A' n' c') ∧ W.cell? ⟨GB, 0, none⟩ = some (.slice (some ⟨pb, 0, none⟩) m pc) ∧ W.cell? ⟨pb, i * 3, none⟩ = some (.string x.l) ∧ W.cell? ⟨pb, i * 3 + 1, none⟩ = some (.int .i64 x.a) ∧ W.cell? ⟨pb, i * 3 + 2, none⟩ = some (.int .i64 x.b) from
          ⟨(h.cell (p := ⟨MB, 0, none⟩) ml).trans m0, (h.cell (p := ⟨GB, 0, none⟩) gl).trans g0, (h.cell (p := ⟨pb, i * 3, none⟩) hpB).trans (by simpa using c0), (h.cell (p := ⟨pb, i * 3 + 1, none⟩) hpB).trans (by simpa using c1), (h.cell (p := ⟨pb, i * 3 + 2, none⟩) hpB).trans (by simpa using c2)⟩)
        have i0 : (0 : Int) ≤ (i : Int) := by omega
        have i1 : (i : Int) < (m : Int) := by omega
        clear gx gx' c0 c1 c2 PR
        go_upto_region 8 with fail
        refine wp_region_N (fun W => W.cell? ⟨MB, 0, none⟩ = some (.slice A' n' c') ∧ W.cell? ⟨GB, 0, none⟩ = some (.slice (some ⟨pb, 0, none⟩) m pc) ∧ W.cell? ⟨pb, i * 3, none⟩ = some (.string x.l) ∧ W.cell? ⟨pb, i * 3 + 1, none⟩ = some (.int .i64 x.a) ∧ W.cell? ⟨pb, i * 3 + 2, none⟩ = some (.int .i64 x.b)) [14, 15, 16] (by kernel_rfl) ?_
        have c0 : Below wr.heap.size wr wr.drew := (Below.refl _ _).drew
        have hS0 := HS.out _ c0
        generalize wr.drew = wd at *
        refine wpAnyN_take (i := 0) (v := ?_) rfl (by kernel_rfl) (fun _ _ _ h => h) (by rfl) (fun W hW => ?_) hS0 ?_
        rotate_left
        · obtain ⟨z0, z1, z2, z3, z4⟩ := hW
          go_simp
          try with_reducible rfl
        try simp only [List.getElem_toArray, List.getElem_cons_zero, List.getElem_cons_succ, Act.put, List.setIfInBounds_toArray, List.set_cons_zero, List.set_cons_succ]
        refine wpAnyN_take (i := 1) (v := ?_) rfl (by kernel_rfl) (fun _ _ _ h => h) (by rfl) (fun W hW => ?_) hS0 ?_
        rotate_left
        · obtain ⟨z0, z1, z2, z3, z4⟩ := hW
          go_simp
          try with_reducible rfl
        try simp only [List.getElem_toArray, List.getElem_cons_zero, List.getElem_cons_succ, Act.put, List.setIfInBounds_toArray, List.set_cons_zero, List.set_cons_succ]
        refine wpAnyN_take (i := 2) (v := ?_) rfl (by kernel_rfl) (fun _ _ _ h => h) (by rfl) (fun W hW => ?_) hS0 ?_
        rotate_left
        · obtain ⟨z0, z1, z2, z3, z4⟩ := hW
          go_simp
          try with_reducible rfl
        try simp only [List.getElem_toArray, List.getElem_cons_zero, List.getElem_cons_succ, Act.put, List.setIfInBounds_toArray, List.set_cons_zero, List.set_cons_succ]
        refine wpAnyN_take (i := 3) (v := ?_) rfl (by kernel_rfl) (fun _ _ _ h => h) (by rfl) (fun W hW => ?_) hS0 ?_
        rotate_left
        · obtain ⟨z0, z1, z2, z3, z4⟩ := hW
          go_simp
          try with_reducible rfl
        try simp only [List.getElem_toArray, List.getElem_cons_zero, List.getElem_cons_succ, Act.put, List.setIfInBounds_toArray, List.set_cons_zero, List.set_cons_succ]
        refine wpAnyN_take (i := 4) (v := ?_) rfl (by kernel_rfl) (fun _ _ _ h => h) (by rfl) (fun W hW => ?_) hS0 ?_
        rotate_left
        · obtain ⟨z0, z1, z2, z3, z4⟩ := hW
          go_simp
          try with_reducible rfl
        try simp only [List.getElem_toArray, List.getElem_cons_zero, List.getElem_cons_succ, Act.put, List.setIfInBounds_toArray, List.set_cons_zero, List.set_cons_succ]
        refine wpAnyN_take (i := 5) (v := ?_) rfl (by kernel_rfl) (fun _ _ _ h => h) (by rfl) (fun W hW => ?_) hS0 ?_
        rotate_left
        · obtain ⟨z0, z1, z2, z3, z4⟩ := hW
          go_simp
          try with_reducible rfl
        try simp only [List.getElem_toArray, List.getElem_cons_zero, List.getElem_cons_succ, Act.put, List.setIfInBounds_toArray, List.set_cons_zero, List.set_cons_succ]
        refine wpAnyN_take (i := 6) (v := ?_) rfl (by kernel_rfl) (fun _ _ _ h => h) (by rfl) (fun W hW => ?_) hS0 ?_
        rotate_left
        · obtain ⟨z0, z1, z2, z3, z4⟩ := hW
          go_simp
          try with_reducible rfl
        try simp only [List.getElem_toArray, List.getElem_cons_zero, List.getElem_cons_succ, Act.put, List.setIfInBounds_toArray, List.set_cons_zero, List.set_cons_succ]
        refine wpAnyN_take (i := 7) (v := ?_) rfl (by kernel_rfl) (fun _ _ _ h => h) (by rfl) (fun W hW => ?_) hS0 ?_
        rotate_left
        · obtain ⟨z0, z1, z2, z3, z4⟩ := hW
          go_simp
          try with_reducible rfl
        try simp only [List.getElem_toArray, List.getElem_cons_zero, List.getElem_cons_succ, Act.put, List.setIfInBounds_toArray, List.set_cons_zero, List.set_cons_succ]
        refine wpAnyN_take (i := 8) (v := ?_) rfl (by kernel_rfl) (fun _ _ _ h => h) (by rfl) (fun W hW => ?_) hS0 ?_
        rotate_left
        · obtain ⟨z0, z1, z2, z3, z4⟩ := hW
          go_simp
          try with_reducible rfl
        try simp only [List.getElem_toArray, List.getElem_cons_zero, List.getElem_cons_succ, Act.put, List.setIfInBounds_toArray, List.set_cons_zero, List.set_cons_succ]
        refine wpAnyN_take (i := 9) (v := ?_) rfl (by kernel_rfl) (fun _ _ _ h => h) (by rfl) (fun W hW => ?_) hS0 ?_
        rotate_left
        · obtain ⟨z0, z1, z2, z3, z4⟩ := hW
          go_simp
          try with_reducible rfl
        try simp only [List.getElem_toArray, List.getElem_cons_zero, List.getElem_cons_succ, Act.put, List.setIfInBounds_toArray, List.set_cons_zero, List.set_cons_succ]
        refine wpAnyN_take (i := 10) (v := ?_) rfl (by kernel_rfl) (fun _ _ _ h => h) (by rfl) (fun W hW => ?_) hS0 ?_
        rotate_left
        · obtain ⟨z0, z1, z2, z3, z4⟩ := hW
          go_simp
          try with_reducible rfl
        try simp only [List.getElem_toArray, List.getElem_cons_zero, List.getElem_cons_succ, Act.put, List.setIfInBounds_toArray, List.set_cons_zero, List.set_cons_succ]
        clear hS0
        refine wpAnyN_next (i := 11) rfl (by kernel_rfl) (fun Kc hK => ?_)
        go_simp
        go_wp2_with (go_at_call 75; refine (RX.out wd).mono ?_; rintro e w6 ⟨rfl, hb6⟩)
        have c6 : Below wr.heap.size wr w6 := c0.trans (hb6.mono c0.size)
        refine hK.out _ _ (fun _ => HS.out _ c6) ?_
        clear hK Kc
        try simp only [List.getElem_toArray, List.getElem_cons_zero, List.getElem_cons_succ, Act.put, List.setIfInBounds_toArray, List.set_cons_zero, List.set_cons_succ]
        refine wpAnyN_next (i := 12) rfl (by kernel_rfl) (fun Kc hK => ?_)
        go_simp
        have c7 : Below wr.heap.size wr (w6.alloc (.cells #[.string y.l, .int .i64 y.a, .int .i64 y.b] 72)) := c6.alloc c6.size _
        have B7 := Lib.hid (HB.out.next c7)
        have O7 := Lib.hid (own_next HO.out c7)
        refine hK.out _ _ (fun _ => HS.out _ c7) ?_
        clear hK Kc
        try simp only [List.getElem_toArray, List.getElem_cons_zero, List.getElem_cons_succ, Act.put, List.setIfInBounds_toArray, List.set_cons_zero, List.set_cons_succ]
        refine wpAnyN_next (i := 13) rfl (by kernel_rfl) (fun Kc hK => ?_)
        refine step_pushS (by rfl) _ _ _ (by rfl) base 72 3 32 elem_rule Fac.cells A' n' c' _ (by rfl) O7.out w6.heap.size y #[.string y.l, .int .i64 y.a, .int .i64 y.b] 72 (0, 0) (by rfl) (heap_alloc_new _ _) rfl rfl (one_fac _) (by omega) (by omega) (by unfold maxLen; omega) (Nat.le_trans hbs2 (Nat.le_trans hbsW c7.size)) ?_
        intro A8 cc8 w8 own8 hg8 at8
        have B8 := Lib.hid (B7.out.grown hg8 (own_blk_ne O7.out B7.out (by decide)))
        have b80 := B8.out.cell 0
        have b8l := B8.out.lt
        have b8f := B8.out.frozen 0
        have F8 := Lib.hid (show MkF w2 (w8.setCell ⟨MB, 0, none⟩ (.slice A8 (n' + 1) cc8)) MB (.slice A n c) (.slice A8 (n' + 1) cc8) from (HF.out.next c7).trans (MkF.push hg8 at8))
        have B9 := Lib.hid (B8.out.set_ 0 (.slice A8 (n' + 1) cc8))
        have O9 := Lib.hid (own_kept' own8 B8.out (by decide) (i := 0) (.slice A8 (n' + 1) cc8))
        have z7 := HS.out _ c7
        have S9 := Lib.hid (show w8.cell? ⟨MB, 0, none⟩ = some (.slice A' n' c') ∧ w8.cell? ⟨GB, 0, none⟩ = some (.slice (some ⟨pb, 0, none⟩) m pc) ∧ w8.cell? ⟨pb, i * 3, none⟩ = some (.string x.l) ∧ w8.cell? ⟨pb, i * 3 + 1, none⟩ = some (.int .i64 x.a) ∧ w8.cell? ⟨pb, i * 3 + 2, none⟩ = some (.int .i64 x.b) from ⟨b80, keepcM hg8 z7.2.1 hgv, keepcM hg8 z7.2.2.1 hpv, keepcM hg8 z7.2.2.2.1 hpv, keepcM hg8 z7.2.2.2.2 hpv⟩)
        clear own8 hg8 at8
        refine hK.out _ _ (fun _ => S9.out) ?_
        clear hK Kc
        try simp only [List.getElem_toArray, List.getElem_cons_zero, List.getElem_cons_succ, Act.put, List.setIfInBounds_toArray, List.set_cons_zero, List.set_cons_succ]
        refine wpAnyN_next (i := 14) rfl (by kernel_rfl) (fun Kc hK => ?_)
        go_simp
        refine hK.out _ _ (fun h => absurd h (by decide)) ?_
        clear hK Kc
        try simp only [List.getElem_toArray, List.getElem_cons_zero, List.getElem_cons_succ, Act.put, List.setIfInBounds_toArray, List.set_cons_zero, List.set_cons_succ]
        refine wpAnyN_next (i := 15) rfl (by kernel_rfl) (fun Kc hK => ?_)
        go_simp
        refine hK.out _ _ (fun h => absurd h (by decide)) ?_
        clear hK Kc
        try simp only [List.getElem_toArray, List.getElem_cons_zero, List.getElem_cons_succ, Act.put, List.setIfInBounds_toArray, List.set_cons_zero, List.set_cons_succ]
        refine wpAnyN_next (i := 16) rfl (by kernel_rfl) (fun Kc hK => ?_)
        go_simp
        go_wp2_with fail
        refine hK.out _ _ (fun h => absurd h (by decide)) ?_
        clear hK Kc
        try simp only [List.getElem_toArray, List.getElem_cons_zero, List.getElem_cons_succ, Act.put, List.setIfInBounds_toArray, List.set_cons_zero, List.set_cons_succ]
        refine wpAnyN_done (by kernel_rfl) ?_ _
        go_wp2_with fail
        go_roundw
        case rel => exact ⟨i + 1, A8, n' + 1, cc8, by go_num, by omega, by omega, Lib.hid (by have := HN'.out; omega), B9, Lib.hid (by rw [HTk.out, ← List.append_assoc]; exact O9.out), F8⟩
        case measure => simp [intOf]; omega
      · obtain rfl : i = m := by omega
        have i1 : ¬ (i : Int) < (i : Int) := by omega
        have u1 : IntKind.i64.wrap ((n' : Int) - 1) = ((n + i : Nat) : Int) - 1 := by have := HN'.out; rw [IntWalk.i64_in _ (by omega)]; omega
        have ht : (raiseL (n : Int) pl).take i = raiseL (n : Int) pl := List.take_of_length_le (by rw [raiseL_len, HPL.out]; exact Nat.le_refl _)
        rw [ht] at HO
        obtain rfl := HN'.out
        go_wp2_with fail
        go_ret
        rw [E.out, HPL.out]
        refine ⟨A', c', rfl, by rw [HLn.out]; exact HB.out, by rw [HLn.out]; exact HO.out, ?_⟩
        rw [HLn.out]
        exact F2.out.trans HF.out
end Go.Proofs.YtmdmgndhapdmgaaGreat


/-
  Which rules are met in which states, in the reference.
-/
namespace Go.Proofs.YtmdmgndhapdmgaaGreat
open Go.RowKit

/-- a new table of truths -/
def RetTabB (w0 : World) (xss : List (List Bool)) (e : Ending) (w' : World) : Prop :=
  ∃ A c hs, e = .returned (.slice A xss.length c) ∧ TabR 70 4 boolE w' w0.heap.size A xss.length c hs xss ∧ Below w0.heap.size w0 w'
set_option maxHeartbeats 4000000 in
set_option maxRecDepth 100000 in
theorem l04Met_any (S q : Nat) (gp : Nat) (M : Option Addr) (cm : Nat) (mh : List RowH) (MP : List (List Int)) (G : Option Addr) (n c : Nat) (rs : List Fac) (w : World) (hq : q < S) (hS2 : S ≤ 24) (hn0 : n ≠ 0) (hn : n ≤ 1048576) (hgp : gp < w.heap.size) (hgc : w.cell? ⟨gp, 0, none⟩ = some (.slice G n c)) (hr : Rd w w.heap.size G n 3 Fac.cells rs) (hwf : WF rs)
    (hm : RdT w w.heap.size M n intE mh MP) (hM : ∀ k, k < n → StL S (MP.getD k [])) :
    Calls Tryz.prog 42 #[.pointer (some ⟨gp, 0, none⟩), .slice M n cm, .int .i64 (q : Int)] w (RetTabB w (metT MP rs S q)) := by
  have hl := Lib.hid hr.len
  have HX := Lib.hid hm
  have HMl := Lib.hid hm.len
  have HR := Lib.hid hr
  have HW := Lib.hid hwf
  have HM := Lib.hid hM
  have HSh := Lib.hid (metT_sh (S := S) (M := MP) hwf (by rw [hr.len]; exact hn0) q)
  have HMT := Lib.hid (show metD MP rs n (put (met00 n S) (n - 1) q) = metT MP rs S q by rw [← hl.out]; rfl)
  generalize metT MP rs S q = MT at *
  clear hm hr hwf hM
  have HG := Lib.hid (fun W (h : Below w.heap.size w W) => show W.cell? ⟨gp, 0, none⟩ = some (.slice G n c) ∧ gp < W.heap.size from ⟨(h.cell (p := ⟨gp, 0, none⟩) hgp).trans hgc, Nat.lt_of_lt_of_le hgp h.size⟩)
  clear hgp hgc
  have mkB := fun W => makeB S W (by omega)
  go_enter Tryz.func42, Tryz.ntmps42
  go_wp2_with fail
  refine named fun w0 H0 => ?_
  have b1 := Lib.hid (show Below w.heap.size w w0 by rw [H0.out]; (repeat first | exact Below.refl _ _ | assumption | refine Below.drew ?_ | refine Below.alloc ?_ (by first | exact Nat.le_refl _ | (simp; done) | omega | (simp; omega)) _ | refine Below.setCell ?_ (by first | exact Nat.le_refl _ | (simp; done) | omega | (simp; omega)) _))
  have T1 := Lib.hid (show TabR 70 4 boolE w0 w.heap.size (some ⟨w.heap.size, 0, none⟩) 0 0 [] (met00 0 S) from ⟨by rw [H0.out]; simpa using World.ownsRow_made (base := w.heap.size) (e := 70) (size := 1) w #[] 0 (Nat.le_refl _) (by unfold maxLen; omega) rfl, rfl, rfl, fun i h x h1 => by simp at h1, fun i j h h' g h1 => by simp at h1⟩)
  clear H0
  go_loopw [7, 8] (fun o_ i_ w' => ∃ (k : Nat) (A : Option Addr) (c' : Nat) (hs : List RowH), i_ = .int .i64 k ∧ o_ = .slice A k c' ∧ k ≤ n ∧ Hid (TabR 70 4 boolE w' w.heap.size A k c' hs (met00 k S)) ∧ Hid (Below w.heap.size w w')) (fun _ i_ _ => n - (intOf i_).toNat)
  case atStart => exact ⟨0, _, 0, [], rfl, rfl, by omega, T1, b1⟩
  case round =>
    obtain ⟨k, A, c', hs, rfl, rfl, hk, HT, hb⟩ := hrel
    clear T1 b1
    obtain ⟨e1g, e2g⟩ := HG.out wr hb.out
    by_cases hlt : k < n
    · obtain ⟨mb, mo, ⟨rA, rn, rc⟩, m, rfl, hmB, gq, gm, c0, rm⟩ := (HX.out.next hb.out).at_ hlt
      have hrn : rn = S := by
        have h1 : m.length = rn := rm.len
        have h2 := (HM.out k hlt).1
        rw [List.getD_eq_getElem?_getD, gm] at h2
        have h2 : m.length = S := h2
        omega
      subst hrn
      have i0 : (0 : Int) ≤ (k : Int) := by omega
      have i1 : (k : Int) < (n : Int) := by omega
      have hbw := Lib.hid hb.out.size
      have P4 := Lib.hid (show TabR 70 4 boolE ((wr.alloc (.cells (boolA (List.replicate rn false)) 4)).alloc (.cells #[.slice (some ⟨wr.heap.size, 0, none⟩) rn rn] 70)) w.heap.size A k c' hs (met00 k rn) from (HT.out.alloc _).alloc _)
      have Q4 := Lib.hid (show ((wr.alloc (.cells (boolA (List.replicate rn false)) 4)).alloc (.cells #[.slice (some ⟨wr.heap.size, 0, none⟩) rn rn] 70)).ownsRow w.heap.size 4 1 (.slice (some ⟨wr.heap.size, 0, none⟩) rn rn) rn ((List.replicate rn false).flatMap boolE) from by
        have h := own_of_blk (α := Bool) (enc := boolE) (xs := List.replicate rn false) (base := w.heap.size) (n := rn) (sz := 1) (Blk.new wr 4 (boolA (List.replicate rn false))) hbw.out (by simp [boolA]) (by simp) (by unfold maxLen; omega) (fun _ _ => rfl) (fun k x hx j hj => by
          have hk : k < rn := by have := (List.getElem?_eq_some_iff.1 hx).1; simpa using this
          obtain rfl : j = 0 := by omega
          rw [Nat.mul_one, Nat.add_zero, boolA_at _ (by simpa using hk), List.getD_eq_getElem?_getD, hx]; rfl)
        exact own_next h ((Below.refl _ _).alloc (Nat.le_refl _) _))
      have hfar := Lib.hid (show ∀ (i : Nat) (p : RowH) (g : Nat), hs[i]? = some p → (Value.slice p.A p.n p.c).ownBlock = some g → (Value.slice (some ⟨wr.heap.size, 0, none⟩) rn rn).ownBlock ≠ some g from fun i p g hp hv e => by injection e with e; have := (HT.out.ge i p g hp hv).2; have e' : wr.heap.size = g := e; omega)
      have B4 := Lib.hid (show Below w.heap.size w ((wr.alloc (.cells (boolA (List.replicate rn false)) 4)).alloc (.cells #[.slice (some ⟨wr.heap.size, 0, none⟩) rn rn] 70)) from (hb.out.alloc hb.out.size _).alloc (Nat.le_trans hb.out.size (by simp)) _)
      have hN := Lib.hid (show ((wr.alloc (.cells (boolA (List.replicate rn false)) 4)).alloc (.cells #[.slice (some ⟨wr.heap.size, 0, none⟩) rn rn] 70)).heap[wr.heap.size + 1]? = some (.cells #[.slice (some ⟨wr.heap.size, 0, none⟩) rn rn] 70) from by
        have h := heap_alloc_new (wr.alloc (.cells (boolA (List.replicate rn false)) 4)) (.cells #[.slice (some ⟨wr.heap.size, 0, none⟩) rn rn] 70)
        simpa using h)
      clear gq gm rm HT hb
      go_wp2_with
        (at_builtin
         refine wpList_pushG rfl _ _ _ rfl w.heap.size 70 1 24 elemB2 encR A k c' hs rfl P4.out.o (wr.heap.size + 1) (⟨some ⟨wr.heap.size, 0, none⟩, rn, rn⟩ : RowH) #[.slice (some ⟨wr.heap.size, 0, none⟩) rn rn] 70 (0, 0) rfl hN.out rfl rfl (by simp [encR, Value.oneCell']) (by omega) (by omega) (by unfold maxLen; omega) B4.out.size ?_
         intro A9 c9 w9 own9 hg9 _
         have T9 := Lib.hid (P4.out.push (q := ⟨some ⟨wr.heap.size, 0, none⟩, rn, rn⟩) (by decide) Q4.out (by simp) hfar.out own9 hg9)
         have b9 := Lib.hid (B4.out.grown hg9 B4.out.size (own_ge P4.out.o))
         clear own9 hg9)
      go_roundw
      case rel => exact ⟨k + 1, A9, c9, _, by go_num, rfl, by omega, Lib.hid (by have := T9.out; rw [show met00 (k + 1) rn = met00 k rn ++ [List.replicate rn false] from List.replicate_succ']; exact this), b9⟩
      case measure => simp [intOf]; omega
    · obtain rfl : k = n := by omega
      have i1 : ¬ (k : Int) < (k : Int) := by omega
      have u1 : IntKind.i64.wrap ((k : Int) - 1) = (k : Int) - 1 := IntWalk.i64_in _ (by omega)
      clear mkB
      have HT0 := Lib.hid (show metD MP rs k (put (met00 k S) (k - 1) q) = MT from HMT.out)
      have HS0 := Lib.hid (met00_sh k S)
      clear HMT
      generalize hT0 : met00 k S = T0 at *
      clear hT0
      have hb' := hb
      clear hb
      have HT' := HT
      clear HT
      go_wp2_with fail
      go_loopw [9] (fun i_ w' => ∃ (i : Nat) (T : List (List Bool)), i_ = .int .i64 ((i : Int) - 1) ∧ i ≤ k ∧ Hid (TabR 70 4 boolE w' w.heap.size A k c' hs T) ∧ Hid (Sh k S T) ∧ Hid (metD MP rs i (if i = k then put T (k - 1) q else T) = MT) ∧ Hid (Below w.heap.size w w')) (fun i_ _ => (intOf i_ + 1).toNat)
      case atStart => exact ⟨k, _, rfl, by omega, HT', HS0, Lib.hid (by rw [if_pos rfl]; exact HT0.out), hb'⟩
      case round =>
        obtain ⟨i, T, rfl, hi, HT, HS, HE, hb⟩ := hrel
        clear HT' HS0 HT0 hb' e1g e2g
        obtain ⟨e1g, e2g⟩ := HG.out wr hb.out
        rcases Nat.eq_zero_or_pos i with hi0 | hi0
        · subst hi0
          have j0 : ¬ (0 : Int) ≤ ((0 : Nat) : Int) - 1 := by omega
          have e : T = MT := by have h := HE.out; rw [if_neg (by omega)] at h; exact h
          have hml : T.length = k := HS.out.len
          rw [e] at HT hml
          clear HE e
          go_wp2_with fail
          go_ret
          exact ⟨A, c', hs, ret_slice hml.symm, by rw [hml]; exact HT.out, hb.out⟩
        · obtain ⟨r, rfl⟩ : ∃ r, i = r + 1 := ⟨i - 1, by omega⟩
          have j0 : (0 : Int) ≤ (((r + 1 : Nat) : Nat) : Int) - 1 := by omega
          have j1 : (((r + 1 : Nat) : Nat) : Int) - 1 = (r : Int) := by omega
          rw [j1] at j0 ⊢
          clear j1
          have i1 : (r : Int) < (k : Int) := by omega
          obtain ⟨x, gx⟩ : ∃ x, rs[r]? = some x := ⟨_, List.getElem?_eq_getElem (by rw [hl.out]; omega)⟩
          have HGx := Lib.hid gx
          have HWk := Lib.hid (HW.out r x gx)
          have hxe : rs.getD r ⟨⟨#[]⟩, 0, 0⟩ = x := by rw [List.getD_eq_getElem?_getD, gx]; rfl
          have HXE := Lib.hid hxe
          clear gx hxe
          by_cases hrk : r + 1 = k
          · have HE2 := Lib.hid (show metD MP rs r (metR MP x r (put T r q)) = MT by
              have h := HE.out
              rw [if_pos hrk, metD, HXE.out] at h
              rw [show k - 1 = r by omega] at h; exact h)
            clear HE
            have ek : ((r : Int) == (k : Int) - 1) = true := by simp; omega
            obtain ⟨v0, gv0, lv0⟩ := HS.out.at_ (i := r) (by omega)
            obtain ⟨z, hz⟩ : ∃ z, v0[q]? = some z := ⟨_, List.getElem?_eq_getElem (by omega)⟩
            obtain ⟨p, g, cq, rfl, hpl, hq', eq', hgl, eg, _⟩ := HT.out.cell2 .bool (fun _ => rfl) gv0 hz
            rw [lv0] at eq' hq'
            have HS1 := Lib.hid (HS.out.put (i := r) (s := q) (by omega))
            have T3 := Lib.hid (show TabR 70 4 boolE (wr.setCell ⟨g, q, none⟩ (.bool true)) w.heap.size (some ⟨p, 0, none⟩) k c' hs (put T r q) from by rw [put_eq gv0]; exact HT.out.setC .bool (fun _ => rfl) (by decide) hq' gv0 true)
            have b3 := Lib.hid (show Below w.heap.size w (wr.setCell ⟨g, q, none⟩ (.bool true)) from hb.out.setCell (by show w.heap.size ≤ g; exact (HT.out.geC hq').1) _)
            have q0 : (0 : Int) ≤ (q : Int) := by omega
            have fz := HT.out.frz hq' gv0 q
            have q1 : (q : Int) < (S : Int) := by omega
            generalize put T r q = T1 at *
            clear gv0 hz HT HS hb hrk
            go_upto_region 11 with fail
            refine named fun w3 H3 => ?_
            have HT := Lib.hid (show TabR 70 4 boolE w3 w.heap.size (some ⟨p, 0, none⟩) k c' hs T1 by rw [H3.out]; exact T3.out)
            have hb := Lib.hid (show Below w.heap.size w w3 by rw [H3.out]; exact b3.out)
            have HS := HS1
            clear HS1 T3 b3 H3 eq' eg hgl hpl e1g e2g ek
            obtain ⟨wr, rfl⟩ : ∃ wz : World, wz = w3 := ⟨_, rfl⟩
            obtain ⟨T, rfl⟩ : ∃ T, T = T1 := ⟨_, rfl⟩
            obtain ⟨b, o, x', rfl, hB, gx', c0, c1, c2⟩ := (HR.out.next hb.out).fac (k := r) (by omega)
            obtain rfl : x = x' := Option.some.inj (HGx.out.symm.trans gx')
            obtain ⟨e1g, e2g⟩ := HG.out wr hb.out
            clear gx'
            have P3 := Lib.hid (show MtX w (wr.alloc (.cells #[.string x.l, .int .i64 x.a, .int .i64 x.b] 72)) (some ⟨p, 0, none⟩) k c' hs T wr.heap.size x from ⟨HT.out.alloc _, Blk.new wr 72 #[.string x.l, .int .i64 x.a, .int .i64 x.b], hb.out.alloc hb.out.size _⟩)
            go_wp2_with fail
            refine named fun w3 H3 => ?_
            have P4 := Lib.hid (show MtX w w3 (some ⟨p, 0, none⟩) k c' hs T wr.heap.size x by rw [H3.out]; exact P3.out)
            obtain ⟨X, hX⟩ : ∃ X, wr.heap.size = X := ⟨_, rfl⟩
            rw [hX] at P4 ⊢
            clear H3 P3 HT hb c0 c1 c2 e1g e2g hB hX
            obtain ⟨v, gv, lv⟩ := HS.out.at_ (i := r) (by omega)
            have HGv := Lib.hid gv
            have hvD : T.getD r [] = v := by rw [List.getD_eq_getElem?_getD, gv]; rfl
            rcases HWk.out with ⟨h0, ha0, ha1, hb0, hb1⟩ | ⟨cc, hcc, hxl, hxa, hxb⟩
            · have e0 := size0 h0
              obtain ⟨xa, hxa⟩ := Int.eq_ofNat_of_zero_le ha0
              obtain ⟨xb, hxb⟩ := Int.eq_ofNat_of_zero_le hb0
              have hxak : xa < r := by omega
              have hxbk : xb < r := by omega
              have HXa := Lib.hid hxa
              have HXb := Lib.hid hxb
              have HE3 := Lib.hid (show metD MP rs r (metI MP xa xb (v.drop 0) 0 T) = MT by
                have h := HE2.out
                unfold metR at h
                rw [if_pos h0, hvD, hxa, hxb, Int.toNat_natCast, Int.toNat_natCast] at h
                exact h)
              clear gv hvD hxa hxb ha0 ha1 hb0 hb1 HE2 h0
              go_loopw [11] (fun s_ w' => ∃ (s : Nat) (T' : List (List Bool)), s_ = .int .i64 s ∧ s ≤ S ∧ Hid (MtX w w' (some ⟨p, 0, none⟩) k c' hs T' X x) ∧ Hid (Sh k S T') ∧ Hid (T'[r]? = some v) ∧ Hid (metD MP rs r (metI MP xa xb (v.drop s) s T') = MT)) (fun s_ _ => S - (intOf s_).toNat)
              case atStart => exact ⟨0, T, rfl, by omega, P4, HS, HGv, HE3⟩
              case round =>
                obtain ⟨s, T', rfl, hs', HP, HS', HV, HE4⟩ := hrel
                clear P4 HS HGv HE3
                obtain ⟨pz, rowh, vv, hpz, hpl, hrow, gvv, er, hrl, _⟩ := HP.out.t.at_ (i := r) (by omega)
                obtain rfl : p = pz := by injection hpz with hpz; injection hpz
                obtain rfl : v = vv := Option.some.inj (HV.out.symm.trans gvv)
                obtain ⟨rA, rn, rc⟩ := rowh
                have hrl : v.length = rn := hrl
                have hrn : rn = S := by omega
                subst hrn
                have er : wr.cell? ⟨p, r, none⟩ = some (.slice rA rn rc) := er
                obtain ⟨y0, y1, y2⟩ := HP.out.x.three
                have yl := HP.out.x.lt
                by_cases hlt2 : s < rn
                · obtain ⟨bz, hbz⟩ : ∃ bz, v[s]? = some bz := ⟨_, List.getElem?_eq_getElem (by omega)⟩
                  obtain ⟨p', g, cq, hpp, _, hq', eq', hgl, eg, _⟩ := HP.out.t.cell2 .bool (fun _ => rfl) HV.out hbz
                  obtain rfl : p = p' := by injection hpp with hpp; injection hpp
                  have hrA : rA = some ⟨g, 0, none⟩ := by
                    rw [eq'] at er
                    injection er with er; injection er with er; exact er.symm
                  subst hrA
                  have s0 : (0 : Int) ≤ (s : Int) := by omega
                  have s1 : (s : Int) < (rn : Int) := by omega
                  have HE5 := Lib.hid (show metD MP rs r (metI MP xa xb (v.drop (s + 1)) (s + 1) (if bz = true then metP MP xa xb s T' else T')) = MT by
                    rw [← HE4.out, drop_cons hbz]; rfl)
                  clear HE4 eq' hpp hpz gvv
                  rcases bz with _ | _
                  · go_wp2_with fail
                    go_roundw
                    case rel => exact ⟨s + 1, T', by go_num, by omega, HP, HS', HV, Lib.hid (by have h := HE5.out; simpa using h)⟩
                    case measure => simp [intOf]; omega
                  · obtain ⟨va, gva, lva⟩ := HS'.out.at_ (i := xa) (by omega)
                    obtain ⟨za, hza⟩ : ∃ z, va[s]? = some z := ⟨_, List.getElem?_eq_getElem (by omega)⟩
                    obtain ⟨p2, ga, ca, hpp2, _, hqa, ea, hgal, ega, _⟩ := HP.out.t.cell2 .bool (fun _ => rfl) gva hza
                    obtain rfl : p = p2 := by injection hpp2 with hpp2; injection hpp2
                    rw [lva] at ea hqa
                    obtain ⟨m, gm⟩ : ∃ m, MP[xa]? = some m := ⟨_, List.getElem?_eq_getElem (by rw [HMl.out]; omega)⟩
                    have hms : StL rn m := by have h := HM.out xa (by omega); rw [List.getD_eq_getElem?_getD, gm] at h; exact h
                    obtain ⟨t, gt, ht⟩ := hms.at_ hlt2
                    have P5 := Lib.hid (HP.out.set hqa gva s)
                    have HS5 := Lib.hid (show Sh k rn (T'.set xa (va.set s true)) from HS'.out.set xa (by rw [List.length_set]; exact lva))
                    have HV5 := Lib.hid (show (T'.set xa (va.set s true))[r]? = some v by rw [List.getElem?_set_ne (by omega)]; exact HV.out)
                    obtain ⟨vb, gvb, lvb⟩ := HS5.out.at_ (i := xb) (by omega)
                    have HE6 := Lib.hid (show metD MP rs r (metI MP xa xb (v.drop (s + 1)) (s + 1) ((T'.set xa (va.set s true)).set xb (vb.set t true))) = MT by
                      have h := HE5.out
                      rw [if_pos rfl, metP_eq gva gm gt gvb] at h; exact h)
                    have k0 : (0 : Int) ≤ (xa : Int) := by omega
                    have k1 : (xa : Int) < (k : Int) := by omega
                    have k2 : (0 : Int) ≤ (xb : Int) := by omega
                    have k3 : (xb : Int) < (k : Int) := by omega
                    have k4 : (0 : Int) ≤ (t : Int) := by omega
                    have k5 : (t : Int) < (rn : Int) := by omega
                    have HGm := Lib.hid gm
                    have HGt := Lib.hid gt
                    have HGb := Lib.hid gvb
                    rw [HXa.out] at y1
                    rw [HXb.out] at y2
                    have fz := HP.out.t.frz hqa gva s
                    clear HE5 HS' HV hpp2 hza gm gt hms gva gvb
                    go_upto_region 17 with fail
                    refine named fun w3 H3 => ?_
                    have HP := Lib.hid (show MtX w w3 (some ⟨p, 0, none⟩) k c' hs (T'.set xa (va.set s true)) X x by rw [H3.out]; exact P5.out)
                    clear H3 P5 y0 y1 y2 yl er eg ea ega hgal hgl hpl hrow
                    obtain ⟨wr, rfl⟩ : ∃ wz : World, wz = w3 := ⟨_, rfl⟩
                    generalize T'.set xa (va.set s true) = T1 at *
                    obtain ⟨vt, gvt⟩ : ∃ z, vb[t]? = some z := ⟨_, List.getElem?_eq_getElem (by omega)⟩
                    obtain ⟨p3, gb, cb, hpp3, hpl, hqb, eb, hgbl, egb, _⟩ := HP.out.t.cell2 .bool (fun _ => rfl) HGb.out gvt
                    obtain rfl : p = p3 := by injection hpp3 with hpp3; injection hpp3
                    rw [lvb] at eb hqb
                    obtain ⟨mp, mo, mg, mgo, mc, rfl, hmpl, em, hmgl, emg⟩ := (HX.out.next HP.out.e).cell2 (.int .i64) (fun _ => rfl) HGm.out HGt.out
                    have hml : m.length = rn := by have h := HM.out xa (by omega); rw [List.getD_eq_getElem?_getD, HGm.out] at h; exact h.1
                    rw [hml] at em
                    obtain ⟨_, y1, y2⟩ := HP.out.x.three
                    have yl := HP.out.x.lt
                    rw [HXa.out] at y1
                    rw [HXb.out] at y2
                    have HS := Lib.hid (fun W (h : Below wr.heap.size wr W) => show W.cell? ⟨X, 2, none⟩ = some (.int .i64 (xb : Int)) ∧ W.cell? ⟨X, 1, none⟩ = some (.int .i64 (xa : Int)) ∧ W.cell? ⟨p, xb, none⟩ = some (.slice (some ⟨gb, 0, none⟩) rn cb) ∧ W.cell? ⟨mp, mo + xa, none⟩ = some (.slice (some ⟨mg, mgo, none⟩) rn mc) ∧ W.cell? ⟨mg, mgo + s, none⟩ = some (.int .i64 (t : Int)) ∧ W.cell? ⟨gb, t, none⟩ = some (.bool vt) from
                      ⟨(h.cell (p := ⟨X, 2, none⟩) yl).trans y2, (h.cell (p := ⟨X, 1, none⟩) yl).trans y1, (h.cell (p := ⟨p, xb, none⟩) hpl).trans eb, (h.cell (p := ⟨mp, mo + xa, none⟩) hmpl).trans em, (h.cell (p := ⟨mg, mgo + s, none⟩) hmgl).trans emg, (h.cell (p := ⟨gb, t, none⟩) hgbl).trans egb⟩)
                    have FZ := Lib.hid (fun W (h : Below wr.heap.size wr W) => (HP.out.next h).t.frz hqb HGb.out t)
                    have P7 := Lib.hid (fun W (h : Below wr.heap.size wr W) => (HP.out.next h).set hqb HGb.out t)
                    have HS7 := Lib.hid (show Sh k rn (T1.set xb (vb.set t true)) from HS5.out.set xb (by rw [List.length_set]; exact lvb))
                    have HV7 := Lib.hid (show (T1.set xb (vb.set t true))[r]? = some v by rw [List.getElem?_set_ne (by omega)]; exact HV5.out)
                    clear hpp3 gvt eb em emg egb y1 y2
                    refine wp_region_N (fun W => W.cell? ⟨X, 2, none⟩ = some (.int .i64 (xb : Int)) ∧ W.cell? ⟨X, 1, none⟩ = some (.int .i64 (xa : Int)) ∧ W.cell? ⟨p, xb, none⟩ = some (.slice (some ⟨gb, 0, none⟩) rn cb) ∧ W.cell? ⟨mp, mo + xa, none⟩ = some (.slice (some ⟨mg, mgo, none⟩) rn mc) ∧ W.cell? ⟨mg, mgo + s, none⟩ = some (.int .i64 (t : Int)) ∧ W.cell? ⟨gb, t, none⟩ = some (.bool vt)) [14] (by kernel_rfl) ?_
                    have c0 : Below wr.heap.size wr wr.drew := (Below.refl _ _).drew
                    have hS0 := HS.out _ c0
                    have P0 := Lib.hid (HP.out.next c0)
                    generalize wr.drew = wd at *
                    refine wpAnyN_take (i := 0) (v := ?_) rfl (by kernel_rfl) (fun _ _ _ h => h) (by rfl) (fun W hW => ?_) hS0 ?_
                    rotate_left
                    · obtain ⟨z0, z1, z2, z3, z4, z5⟩ := hW
                      go_simp
                      try with_reducible rfl
                    try simp only [List.getElem_toArray, List.getElem_cons_zero, List.getElem_cons_succ, Act.put, List.setIfInBounds_toArray, List.set_cons_zero, List.set_cons_succ]
                    refine wpAnyN_take (i := 1) (v := ?_) rfl (by kernel_rfl) (fun _ _ _ h => h) (by rfl) (fun W hW => ?_) hS0 ?_
                    rotate_left
                    · obtain ⟨z0, z1, z2, z3, z4, z5⟩ := hW
                      go_simp
                      try with_reducible rfl
                    try simp only [List.getElem_toArray, List.getElem_cons_zero, List.getElem_cons_succ, Act.put, List.setIfInBounds_toArray, List.set_cons_zero, List.set_cons_succ]
                    refine wpAnyN_take (i := 2) (v := ?_) rfl (by kernel_rfl) (fun _ _ _ h => h) (by rfl) (fun W hW => ?_) hS0 ?_
                    rotate_left
                    · obtain ⟨z0, z1, z2, z3, z4, z5⟩ := hW
                      go_simp
                      try with_reducible rfl
                    try simp only [List.getElem_toArray, List.getElem_cons_zero, List.getElem_cons_succ, Act.put, List.setIfInBounds_toArray, List.set_cons_zero, List.set_cons_succ]
                    refine wpAnyN_take (i := 3) (v := ?_) rfl (by kernel_rfl) (fun _ _ _ h => h) (by rfl) (fun W hW => ?_) hS0 ?_
                    rotate_left
                    · obtain ⟨z0, z1, z2, z3, z4, z5⟩ := hW
                      go_simp
                      try with_reducible rfl
                    try simp only [List.getElem_toArray, List.getElem_cons_zero, List.getElem_cons_succ, Act.put, List.setIfInBounds_toArray, List.set_cons_zero, List.set_cons_succ]
                    refine wpAnyN_take (i := 4) (v := ?_) rfl (by kernel_rfl) (fun _ _ _ h => h) (by rfl) (fun W hW => ?_) hS0 ?_
                    rotate_left
                    · obtain ⟨z0, z1, z2, z3, z4, z5⟩ := hW
                      go_simp
                      try with_reducible rfl
                    try simp only [List.getElem_toArray, List.getElem_cons_zero, List.getElem_cons_succ, Act.put, List.setIfInBounds_toArray, List.set_cons_zero, List.set_cons_succ]
                    refine wpAnyN_take (i := 5) (v := ?_) rfl (by kernel_rfl) (fun _ _ _ h => h) (by rfl) (fun W hW => ?_) hS0 ?_
                    rotate_left
                    · obtain ⟨z0, z1, z2, z3, z4, z5⟩ := hW
                      go_simp
                      try with_reducible rfl
                    try simp only [List.getElem_toArray, List.getElem_cons_zero, List.getElem_cons_succ, Act.put, List.setIfInBounds_toArray, List.set_cons_zero, List.set_cons_succ]
                    refine wpAnyN_take (i := 6) (v := ?_) rfl (by kernel_rfl) (fun _ _ _ h => h) (by rfl) (fun W hW => ?_) hS0 ?_
                    rotate_left
                    · obtain ⟨z0, z1, z2, z3, z4, z5⟩ := hW
                      go_simp
                      try with_reducible rfl
                    try simp only [List.getElem_toArray, List.getElem_cons_zero, List.getElem_cons_succ, Act.put, List.setIfInBounds_toArray, List.set_cons_zero, List.set_cons_succ]
                    refine wpAnyN_take (i := 7) (v := ?_) rfl (by kernel_rfl) (fun _ _ _ h => h) (by rfl) (fun W hW => ?_) hS0 ?_
                    rotate_left
                    · obtain ⟨z0, z1, z2, z3, z4, z5⟩ := hW
                      go_simp
                      try with_reducible rfl
                    try simp only [List.getElem_toArray, List.getElem_cons_zero, List.getElem_cons_succ, Act.put, List.setIfInBounds_toArray, List.set_cons_zero, List.set_cons_succ]
                    refine wpAnyN_take (i := 8) (v := ?_) rfl (by kernel_rfl) (fun _ _ _ h => h) (by rfl) (fun W hW => ?_) hS0 ?_
                    rotate_left
                    · obtain ⟨z0, z1, z2, z3, z4, z5⟩ := hW
                      go_simp
                      try with_reducible rfl
                    try simp only [List.getElem_toArray, List.getElem_cons_zero, List.getElem_cons_succ, Act.put, List.setIfInBounds_toArray, List.set_cons_zero, List.set_cons_succ]
                    refine wpAnyN_take (i := 9) (v := ?_) rfl (by kernel_rfl) (fun _ _ _ h => h) (by rfl) (fun W hW => ?_) hS0 ?_
                    rotate_left
                    · obtain ⟨z0, z1, z2, z3, z4, z5⟩ := hW
                      go_simp
                      try with_reducible rfl
                    try simp only [List.getElem_toArray, List.getElem_cons_zero, List.getElem_cons_succ, Act.put, List.setIfInBounds_toArray, List.set_cons_zero, List.set_cons_succ]
                    refine wpAnyN_take (i := 10) (v := ?_) rfl (by kernel_rfl) (fun _ _ _ h => h) (by rfl) (fun W hW => ?_) hS0 ?_
                    rotate_left
                    · obtain ⟨z0, z1, z2, z3, z4, z5⟩ := hW
                      go_simp
                      try with_reducible rfl
                    try simp only [List.getElem_toArray, List.getElem_cons_zero, List.getElem_cons_succ, Act.put, List.setIfInBounds_toArray, List.set_cons_zero, List.set_cons_succ]
                    refine wpAnyN_take (i := 11) (v := ?_) rfl (by kernel_rfl) (fun _ _ _ h => h) (by rfl) (fun W hW => ?_) hS0 ?_
                    rotate_left
                    · obtain ⟨z0, z1, z2, z3, z4, z5⟩ := hW
                      go_simp
                      try with_reducible rfl
                    try simp only [List.getElem_toArray, List.getElem_cons_zero, List.getElem_cons_succ, Act.put, List.setIfInBounds_toArray, List.set_cons_zero, List.set_cons_succ]
                    refine wpAnyN_take (i := 12) (v := ?_) rfl (by kernel_rfl) (fun _ _ _ h => h) (by rfl) (fun W hW => ?_) hS0 ?_
                    rotate_left
                    · obtain ⟨z0, z1, z2, z3, z4, z5⟩ := hW
                      go_simp
                      try with_reducible rfl
                    try simp only [List.getElem_toArray, List.getElem_cons_zero, List.getElem_cons_succ, Act.put, List.setIfInBounds_toArray, List.set_cons_zero, List.set_cons_succ]
                    refine wpAnyN_take (i := 13) (v := ?_) rfl (by kernel_rfl) (fun _ _ _ h => h) (by rfl) (fun W hW => ?_) hS0 ?_
                    rotate_left
                    · obtain ⟨z0, z1, z2, z3, z4, z5⟩ := hW
                      go_simp
                      try with_reducible rfl
                    try simp only [List.getElem_toArray, List.getElem_cons_zero, List.getElem_cons_succ, Act.put, List.setIfInBounds_toArray, List.set_cons_zero, List.set_cons_succ]
                    obtain ⟨_, _, _, _, _, zz⟩ := hS0
                    have fz := FZ.out _ c0
                    refine wpAnyN_next (i := 14) rfl (by kernel_rfl) (fun Kc hK => ?_)
                    go_simp
                    go_wp2_with fail
                    refine hK.out _ _ (fun h => absurd h (by decide)) ?_
                    clear hK Kc
                    try simp only [List.getElem_toArray, List.getElem_cons_zero, List.getElem_cons_succ, Act.put, List.setIfInBounds_toArray, List.set_cons_zero, List.set_cons_succ]
                    refine wpAnyN_done (by kernel_rfl) ?_ _
                    go_wp2_with fail
                    go_roundw
                    case rel => exact ⟨s + 1, _, by go_num, by omega, Lib.hid (P7.out wd c0), HS7, HV7, HE6⟩
                    case measure => simp [intOf]; omega
                · obtain rfl : s = rn := by omega
                  have s1 : ¬ (s : Int) < (s : Int) := by omega
                  have HE5 := Lib.hid (show metD MP rs r (if r = k then put T' (k - 1) q else T') = MT by
                    rw [if_neg (by omega), ← HE4.out, List.drop_of_length_le (by omega)]; rfl)
                  go_wp2_with fail
                  go_roundw
                  case rel => exact ⟨r, T', by go_num, by omega, Lib.hid HP.out.t, HS', HE5, Lib.hid HP.out.e⟩
                  case measure => simp [intOf]
            · have e1 := size1 (s := x.l) (by rw [hxl]; show (1 : Nat) ≠ 0; omega)
              have e2 := size1' (s := x.l) (by rw [hxl]; show (1 : Nat) ≠ 0; omega)
              have HE5 := Lib.hid (show metD MP rs r (if r = k then put T (k - 1) q else T) = MT by
                rw [if_neg (by omega), ← HE2.out]
                unfold metR
                rw [if_neg (by rw [hxl]; show ¬ (1 : Nat) = 0; omega)])
              clear hxl hxa hxb hvD gv HE2
              go_loopw [11] (fun s_ w' => s_ = .int .i64 0 ∧ Hid (MtX w w' (some ⟨p, 0, none⟩) k c' hs T X x)) (fun _ _ => 0)
              case atStart => exact ⟨rfl, P4⟩
              case round =>
                obtain ⟨rfl, HP⟩ := hrel
                clear P4
                obtain ⟨pz, ⟨rA, rn, rc⟩, vv, hpz, hpl, hrow, gvv, er, hrl, _⟩ := HP.out.t.at_ (i := r) (by omega)
                obtain rfl : p = pz := by injection hpz with hpz; injection hpz
                obtain rfl : v = vv := Option.some.inj (HGv.out.symm.trans gvv)
                have hrl : v.length = rn := hrl
                have hrn : rn = S := by omega
                subst hrn
                have er : wr.cell? ⟨p, r, none⟩ = some (.slice rA rn rc) := er
                obtain ⟨y0, y1, y2⟩ := HP.out.x.three
                have yl := HP.out.x.lt
                have s1 : (0 : Int) < (rn : Int) := by omega
                clear hpz gvv hrow
                go_wp2_with fail
                go_roundw
                case rel => exact ⟨r, T, by go_num, by omega, Lib.hid HP.out.t, HS, HE5, Lib.hid HP.out.e⟩
                case measure => simp [intOf]
          · have HE2 := Lib.hid (show metD MP rs r (metR MP x r T) = MT by
              have h := HE.out
              rw [if_neg hrk, metD, HXE.out] at h; exact h)
            clear HE
            have ek : ((r : Int) == (k : Int) - 1) = false := by simp; omega
            obtain ⟨v0, gv0, lv0⟩ := HS.out.at_ (i := r) (by omega)
            obtain ⟨z, hz⟩ : ∃ z, v0[q]? = some z := ⟨_, List.getElem?_eq_getElem (by omega)⟩
            obtain ⟨p, g, cq, rfl, hpl, _, _, _, _, _⟩ := HT.out.cell2 .bool (fun _ => rfl) gv0 hz
            clear gv0 hz hrk hpl
            go_upto_region 11 with fail
            clear ek e1g e2g
            obtain ⟨b, o, x', rfl, hB, gx', c0, c1, c2⟩ := (HR.out.next hb.out).fac (k := r) (by omega)
            obtain rfl : x = x' := Option.some.inj (HGx.out.symm.trans gx')
            obtain ⟨e1g, e2g⟩ := HG.out wr hb.out
            clear gx'
            have P3 := Lib.hid (show MtX w (wr.alloc (.cells #[.string x.l, .int .i64 x.a, .int .i64 x.b] 72)) (some ⟨p, 0, none⟩) k c' hs T wr.heap.size x from ⟨HT.out.alloc _, Blk.new wr 72 #[.string x.l, .int .i64 x.a, .int .i64 x.b], hb.out.alloc hb.out.size _⟩)
            go_wp2_with fail
            refine named fun w3 H3 => ?_
            have P4 := Lib.hid (show MtX w w3 (some ⟨p, 0, none⟩) k c' hs T wr.heap.size x by rw [H3.out]; exact P3.out)
            obtain ⟨X, hX⟩ : ∃ X, wr.heap.size = X := ⟨_, rfl⟩
            rw [hX] at P4 ⊢
            clear H3 P3 HT hb c0 c1 c2 e1g e2g hB hX
            obtain ⟨v, gv, lv⟩ := HS.out.at_ (i := r) (by omega)
            have HGv := Lib.hid gv
            have hvD : T.getD r [] = v := by rw [List.getD_eq_getElem?_getD, gv]; rfl
            rcases HWk.out with ⟨h0, ha0, ha1, hb0, hb1⟩ | ⟨cc, hcc, hxl, hxa, hxb⟩
            · have e0 := size0 h0
              obtain ⟨xa, hxa⟩ := Int.eq_ofNat_of_zero_le ha0
              obtain ⟨xb, hxb⟩ := Int.eq_ofNat_of_zero_le hb0
              have hxak : xa < r := by omega
              have hxbk : xb < r := by omega
              have HXa := Lib.hid hxa
              have HXb := Lib.hid hxb
              have HE3 := Lib.hid (show metD MP rs r (metI MP xa xb (v.drop 0) 0 T) = MT by
                have h := HE2.out
                unfold metR at h
                rw [if_pos h0, hvD, hxa, hxb, Int.toNat_natCast, Int.toNat_natCast] at h
                exact h)
              clear gv hvD hxa hxb ha0 ha1 hb0 hb1 HE2 h0
              go_loopw [11] (fun s_ w' => ∃ (s : Nat) (T' : List (List Bool)), s_ = .int .i64 s ∧ s ≤ S ∧ Hid (MtX w w' (some ⟨p, 0, none⟩) k c' hs T' X x) ∧ Hid (Sh k S T') ∧ Hid (T'[r]? = some v) ∧ Hid (metD MP rs r (metI MP xa xb (v.drop s) s T') = MT)) (fun s_ _ => S - (intOf s_).toNat)
              case atStart => exact ⟨0, T, rfl, by omega, P4, HS, HGv, HE3⟩
              case round =>
                obtain ⟨s, T', rfl, hs', HP, HS', HV, HE4⟩ := hrel
                clear P4 HS HGv HE3
                obtain ⟨pz, rowh, vv, hpz, hpl, hrow, gvv, er, hrl, _⟩ := HP.out.t.at_ (i := r) (by omega)
                obtain rfl : p = pz := by injection hpz with hpz; injection hpz
                obtain rfl : v = vv := Option.some.inj (HV.out.symm.trans gvv)
                obtain ⟨rA, rn, rc⟩ := rowh
                have hrl : v.length = rn := hrl
                have hrn : rn = S := by omega
                subst hrn
                have er : wr.cell? ⟨p, r, none⟩ = some (.slice rA rn rc) := er
                obtain ⟨y0, y1, y2⟩ := HP.out.x.three
                have yl := HP.out.x.lt
                by_cases hlt2 : s < rn
                · obtain ⟨bz, hbz⟩ : ∃ bz, v[s]? = some bz := ⟨_, List.getElem?_eq_getElem (by omega)⟩
                  obtain ⟨p', g, cq, hpp, _, hq', eq', hgl, eg, _⟩ := HP.out.t.cell2 .bool (fun _ => rfl) HV.out hbz
                  obtain rfl : p = p' := by injection hpp with hpp; injection hpp
                  have hrA : rA = some ⟨g, 0, none⟩ := by
                    rw [eq'] at er
                    injection er with er; injection er with er; exact er.symm
                  subst hrA
                  have s0 : (0 : Int) ≤ (s : Int) := by omega
                  have s1 : (s : Int) < (rn : Int) := by omega
                  have HE5 := Lib.hid (show metD MP rs r (metI MP xa xb (v.drop (s + 1)) (s + 1) (if bz = true then metP MP xa xb s T' else T')) = MT by
                    rw [← HE4.out, drop_cons hbz]; rfl)
                  clear HE4 eq' hpp hpz gvv
                  rcases bz with _ | _
                  · go_wp2_with fail
                    go_roundw
                    case rel => exact ⟨s + 1, T', by go_num, by omega, HP, HS', HV, Lib.hid (by have h := HE5.out; simpa using h)⟩
                    case measure => simp [intOf]; omega
                  · obtain ⟨va, gva, lva⟩ := HS'.out.at_ (i := xa) (by omega)
                    obtain ⟨za, hza⟩ : ∃ z, va[s]? = some z := ⟨_, List.getElem?_eq_getElem (by omega)⟩
                    obtain ⟨p2, ga, ca, hpp2, _, hqa, ea, hgal, ega, _⟩ := HP.out.t.cell2 .bool (fun _ => rfl) gva hza
                    obtain rfl : p = p2 := by injection hpp2 with hpp2; injection hpp2
                    rw [lva] at ea hqa
                    obtain ⟨m, gm⟩ : ∃ m, MP[xa]? = some m := ⟨_, List.getElem?_eq_getElem (by rw [HMl.out]; omega)⟩
                    have hms : StL rn m := by have h := HM.out xa (by omega); rw [List.getD_eq_getElem?_getD, gm] at h; exact h
                    obtain ⟨t, gt, ht⟩ := hms.at_ hlt2
                    have P5 := Lib.hid (HP.out.set hqa gva s)
                    have HS5 := Lib.hid (show Sh k rn (T'.set xa (va.set s true)) from HS'.out.set xa (by rw [List.length_set]; exact lva))
                    have HV5 := Lib.hid (show (T'.set xa (va.set s true))[r]? = some v by rw [List.getElem?_set_ne (by omega)]; exact HV.out)
                    obtain ⟨vb, gvb, lvb⟩ := HS5.out.at_ (i := xb) (by omega)
                    have HE6 := Lib.hid (show metD MP rs r (metI MP xa xb (v.drop (s + 1)) (s + 1) ((T'.set xa (va.set s true)).set xb (vb.set t true))) = MT by
                      have h := HE5.out
                      rw [if_pos rfl, metP_eq gva gm gt gvb] at h; exact h)
                    have k0 : (0 : Int) ≤ (xa : Int) := by omega
                    have k1 : (xa : Int) < (k : Int) := by omega
                    have k2 : (0 : Int) ≤ (xb : Int) := by omega
                    have k3 : (xb : Int) < (k : Int) := by omega
                    have k4 : (0 : Int) ≤ (t : Int) := by omega
                    have k5 : (t : Int) < (rn : Int) := by omega
                    have HGm := Lib.hid gm
                    have HGt := Lib.hid gt
                    have HGb := Lib.hid gvb
                    rw [HXa.out] at y1
                    rw [HXb.out] at y2
                    have fz := HP.out.t.frz hqa gva s
                    clear HE5 HS' HV hpp2 hza gm gt hms gva gvb
                    go_upto_region 17 with fail
                    refine named fun w3 H3 => ?_
                    have HP := Lib.hid (show MtX w w3 (some ⟨p, 0, none⟩) k c' hs (T'.set xa (va.set s true)) X x by rw [H3.out]; exact P5.out)
                    clear H3 P5 y0 y1 y2 yl er eg ea ega hgal hgl hpl hrow
                    obtain ⟨wr, rfl⟩ : ∃ wz : World, wz = w3 := ⟨_, rfl⟩
                    generalize T'.set xa (va.set s true) = T1 at *
                    obtain ⟨vt, gvt⟩ : ∃ z, vb[t]? = some z := ⟨_, List.getElem?_eq_getElem (by omega)⟩
                    obtain ⟨p3, gb, cb, hpp3, hpl, hqb, eb, hgbl, egb, _⟩ := HP.out.t.cell2 .bool (fun _ => rfl) HGb.out gvt
                    obtain rfl : p = p3 := by injection hpp3 with hpp3; injection hpp3
                    rw [lvb] at eb hqb
                    obtain ⟨mp, mo, mg, mgo, mc, rfl, hmpl, em, hmgl, emg⟩ := (HX.out.next HP.out.e).cell2 (.int .i64) (fun _ => rfl) HGm.out HGt.out
                    have hml : m.length = rn := by have h := HM.out xa (by omega); rw [List.getD_eq_getElem?_getD, HGm.out] at h; exact h.1
                    rw [hml] at em
                    obtain ⟨_, y1, y2⟩ := HP.out.x.three
                    have yl := HP.out.x.lt
                    rw [HXa.out] at y1
                    rw [HXb.out] at y2
                    have HS := Lib.hid (fun W (h : Below wr.heap.size wr W) => show W.cell? ⟨X, 2, none⟩ = some (.int .i64 (xb : Int)) ∧ W.cell? ⟨X, 1, none⟩ = some (.int .i64 (xa : Int)) ∧ W.cell? ⟨p, xb, none⟩ = some (.slice (some ⟨gb, 0, none⟩) rn cb) ∧ W.cell? ⟨mp, mo + xa, none⟩ = some (.slice (some ⟨mg, mgo, none⟩) rn mc) ∧ W.cell? ⟨mg, mgo + s, none⟩ = some (.int .i64 (t : Int)) ∧ W.cell? ⟨gb, t, none⟩ = some (.bool vt) from
                      ⟨(h.cell (p := ⟨X, 2, none⟩) yl).trans y2, (h.cell (p := ⟨X, 1, none⟩) yl).trans y1, (h.cell (p := ⟨p, xb, none⟩) hpl).trans eb, (h.cell (p := ⟨mp, mo + xa, none⟩) hmpl).trans em, (h.cell (p := ⟨mg, mgo + s, none⟩) hmgl).trans emg, (h.cell (p := ⟨gb, t, none⟩) hgbl).trans egb⟩)
                    have FZ := Lib.hid (fun W (h : Below wr.heap.size wr W) => (HP.out.next h).t.frz hqb HGb.out t)
                    have P7 := Lib.hid (fun W (h : Below wr.heap.size wr W) => (HP.out.next h).set hqb HGb.out t)
                    have HS7 := Lib.hid (show Sh k rn (T1.set xb (vb.set t true)) from HS5.out.set xb (by rw [List.length_set]; exact lvb))
                    have HV7 := Lib.hid (show (T1.set xb (vb.set t true))[r]? = some v by rw [List.getElem?_set_ne (by omega)]; exact HV5.out)
                    clear hpp3 gvt eb em emg egb y1 y2
                    refine wp_region_N (fun W => W.cell? ⟨X, 2, none⟩ = some (.int .i64 (xb : Int)) ∧ W.cell? ⟨X, 1, none⟩ = some (.int .i64 (xa : Int)) ∧ W.cell? ⟨p, xb, none⟩ = some (.slice (some ⟨gb, 0, none⟩) rn cb) ∧ W.cell? ⟨mp, mo + xa, none⟩ = some (.slice (some ⟨mg, mgo, none⟩) rn mc) ∧ W.cell? ⟨mg, mgo + s, none⟩ = some (.int .i64 (t : Int)) ∧ W.cell? ⟨gb, t, none⟩ = some (.bool vt)) [14] (by kernel_rfl) ?_
                    have c0 : Below wr.heap.size wr wr.drew := (Below.refl _ _).drew
                    have hS0 := HS.out _ c0
                    have P0 := Lib.hid (HP.out.next c0)
                    generalize wr.drew = wd at *
                    refine wpAnyN_take (i := 0) (v := ?_) rfl (by kernel_rfl) (fun _ _ _ h => h) (by rfl) (fun W hW => ?_) hS0 ?_
                    rotate_left
                    · obtain ⟨z0, z1, z2, z3, z4, z5⟩ := hW
                      go_simp
                      try with_reducible rfl
                    try simp only [List.getElem_toArray, List.getElem_cons_zero, List.getElem_cons_succ, Act.put, List.setIfInBounds_toArray, List.set_cons_zero, List.set_cons_succ]
                    refine wpAnyN_take (i := 1) (v := ?_) rfl (by kernel_rfl) (fun _ _ _ h => h) (by rfl) (fun W hW => ?_) hS0 ?_
                    rotate_left
                    · obtain ⟨z0, z1, z2, z3, z4, z5⟩ := hW
                      go_simp
                      try with_reducible rfl
                    try simp only [List.getElem_toArray, List.getElem_cons_zero, List.getElem_cons_succ, Act.put, List.setIfInBounds_toArray, List.set_cons_zero, List.set_cons_succ]
                    refine wpAnyN_take (i := 2) (v := ?_) rfl (by kernel_rfl) (fun _ _ _ h => h) (by rfl) (fun W hW => ?_) hS0 ?_
                    rotate_left
                    · obtain ⟨z0, z1, z2, z3, z4, z5⟩ := hW
                      go_simp
                      try with_reducible rfl
                    try simp only [List.getElem_toArray, List.getElem_cons_zero, List.getElem_cons_succ, Act.put, List.setIfInBounds_toArray, List.set_cons_zero, List.set_cons_succ]
                    refine wpAnyN_take (i := 3) (v := ?_) rfl (by kernel_rfl) (fun _ _ _ h => h) (by rfl) (fun W hW => ?_) hS0 ?_
                    rotate_left
                    · obtain ⟨z0, z1, z2, z3, z4, z5⟩ := hW
                      go_simp
                      try with_reducible rfl
                    try simp only [List.getElem_toArray, List.getElem_cons_zero, List.getElem_cons_succ, Act.put, List.setIfInBounds_toArray, List.set_cons_zero, List.set_cons_succ]
                    refine wpAnyN_take (i := 4) (v := ?_) rfl (by kernel_rfl) (fun _ _ _ h => h) (by rfl) (fun W hW => ?_) hS0 ?_
                    rotate_left
                    · obtain ⟨z0, z1, z2, z3, z4, z5⟩ := hW
                      go_simp
                      try with_reducible rfl
                    try simp only [List.getElem_toArray, List.getElem_cons_zero, List.getElem_cons_succ, Act.put, List.setIfInBounds_toArray, List.set_cons_zero, List.set_cons_succ]
                    refine wpAnyN_take (i := 5) (v := ?_) rfl (by kernel_rfl) (fun _ _ _ h => h) (by rfl) (fun W hW => ?_) hS0 ?_
                    rotate_left
                    · obtain ⟨z0, z1, z2, z3, z4, z5⟩ := hW
                      go_simp
                      try with_reducible rfl
                    try simp only [List.getElem_toArray, List.getElem_cons_zero, List.getElem_cons_succ, Act.put, List.setIfInBounds_toArray, List.set_cons_zero, List.set_cons_succ]
                    refine wpAnyN_take (i := 6) (v := ?_) rfl (by kernel_rfl) (fun _ _ _ h => h) (by rfl) (fun W hW => ?_) hS0 ?_
                    rotate_left
                    · obtain ⟨z0, z1, z2, z3, z4, z5⟩ := hW
                      go_simp
                      try with_reducible rfl
                    try simp only [List.getElem_toArray, List.getElem_cons_zero, List.getElem_cons_succ, Act.put, List.setIfInBounds_toArray, List.set_cons_zero, List.set_cons_succ]
                    refine wpAnyN_take (i := 7) (v := ?_) rfl (by kernel_rfl) (fun _ _ _ h => h) (by rfl) (fun W hW => ?_) hS0 ?_
                    rotate_left
                    · obtain ⟨z0, z1, z2, z3, z4, z5⟩ := hW
                      go_simp
                      try with_reducible rfl
                    try simp only [List.getElem_toArray, List.getElem_cons_zero, List.getElem_cons_succ, Act.put, List.setIfInBounds_toArray, List.set_cons_zero, List.set_cons_succ]
                    refine wpAnyN_take (i := 8) (v := ?_) rfl (by kernel_rfl) (fun _ _ _ h => h) (by rfl) (fun W hW => ?_) hS0 ?_
                    rotate_left
                    · obtain ⟨z0, z1, z2, z3, z4, z5⟩ := hW
                      go_simp
                      try with_reducible rfl
                    try simp only [List.getElem_toArray, List.getElem_cons_zero, List.getElem_cons_succ, Act.put, List.setIfInBounds_toArray, List.set_cons_zero, List.set_cons_succ]
                    refine wpAnyN_take (i := 9) (v := ?_) rfl (by kernel_rfl) (fun _ _ _ h => h) (by rfl) (fun W hW => ?_) hS0 ?_
                    rotate_left
                    · obtain ⟨z0, z1, z2, z3, z4, z5⟩ := hW
                      go_simp
                      try with_reducible rfl
                    try simp only [List.getElem_toArray, List.getElem_cons_zero, List.getElem_cons_succ, Act.put, List.setIfInBounds_toArray, List.set_cons_zero, List.set_cons_succ]
                    refine wpAnyN_take (i := 10) (v := ?_) rfl (by kernel_rfl) (fun _ _ _ h => h) (by rfl) (fun W hW => ?_) hS0 ?_
                    rotate_left
                    · obtain ⟨z0, z1, z2, z3, z4, z5⟩ := hW
                      go_simp
                      try with_reducible rfl
                    try simp only [List.getElem_toArray, List.getElem_cons_zero, List.getElem_cons_succ, Act.put, List.setIfInBounds_toArray, List.set_cons_zero, List.set_cons_succ]
                    refine wpAnyN_take (i := 11) (v := ?_) rfl (by kernel_rfl) (fun _ _ _ h => h) (by rfl) (fun W hW => ?_) hS0 ?_
                    rotate_left
                    · obtain ⟨z0, z1, z2, z3, z4, z5⟩ := hW
                      go_simp
                      try with_reducible rfl
                    try simp only [List.getElem_toArray, List.getElem_cons_zero, List.getElem_cons_succ, Act.put, List.setIfInBounds_toArray, List.set_cons_zero, List.set_cons_succ]
                    refine wpAnyN_take (i := 12) (v := ?_) rfl (by kernel_rfl) (fun _ _ _ h => h) (by rfl) (fun W hW => ?_) hS0 ?_
                    rotate_left
                    · obtain ⟨z0, z1, z2, z3, z4, z5⟩ := hW
                      go_simp
                      try with_reducible rfl
                    try simp only [List.getElem_toArray, List.getElem_cons_zero, List.getElem_cons_succ, Act.put, List.setIfInBounds_toArray, List.set_cons_zero, List.set_cons_succ]
                    refine wpAnyN_take (i := 13) (v := ?_) rfl (by kernel_rfl) (fun _ _ _ h => h) (by rfl) (fun W hW => ?_) hS0 ?_
                    rotate_left
                    · obtain ⟨z0, z1, z2, z3, z4, z5⟩ := hW
                      go_simp
                      try with_reducible rfl
                    try simp only [List.getElem_toArray, List.getElem_cons_zero, List.getElem_cons_succ, Act.put, List.setIfInBounds_toArray, List.set_cons_zero, List.set_cons_succ]
                    obtain ⟨_, _, _, _, _, zz⟩ := hS0
                    have fz := FZ.out _ c0
                    refine wpAnyN_next (i := 14) rfl (by kernel_rfl) (fun Kc hK => ?_)
                    go_simp
                    go_wp2_with fail
                    refine hK.out _ _ (fun h => absurd h (by decide)) ?_
                    clear hK Kc
                    try simp only [List.getElem_toArray, List.getElem_cons_zero, List.getElem_cons_succ, Act.put, List.setIfInBounds_toArray, List.set_cons_zero, List.set_cons_succ]
                    refine wpAnyN_done (by kernel_rfl) ?_ _
                    go_wp2_with fail
                    go_roundw
                    case rel => exact ⟨s + 1, _, by go_num, by omega, Lib.hid (P7.out wd c0), HS7, HV7, HE6⟩
                    case measure => simp [intOf]; omega
                · obtain rfl : s = rn := by omega
                  have s1 : ¬ (s : Int) < (s : Int) := by omega
                  have HE5 := Lib.hid (show metD MP rs r (if r = k then put T' (k - 1) q else T') = MT by
                    rw [if_neg (by omega), ← HE4.out, List.drop_of_length_le (by omega)]; rfl)
                  go_wp2_with fail
                  go_roundw
                  case rel => exact ⟨r, T', by go_num, by omega, Lib.hid HP.out.t, HS', HE5, Lib.hid HP.out.e⟩
                  case measure => simp [intOf]
            · have e1 := size1 (s := x.l) (by rw [hxl]; show (1 : Nat) ≠ 0; omega)
              have e2 := size1' (s := x.l) (by rw [hxl]; show (1 : Nat) ≠ 0; omega)
              have HE5 := Lib.hid (show metD MP rs r (if r = k then put T (k - 1) q else T) = MT by
                rw [if_neg (by omega), ← HE2.out]
                unfold metR
                rw [if_neg (by rw [hxl]; show ¬ (1 : Nat) = 0; omega)])
              clear hxl hxa hxb hvD gv HE2
              go_loopw [11] (fun s_ w' => s_ = .int .i64 0 ∧ Hid (MtX w w' (some ⟨p, 0, none⟩) k c' hs T X x)) (fun _ _ => 0)
              case atStart => exact ⟨rfl, P4⟩
              case round =>
                obtain ⟨rfl, HP⟩ := hrel
                clear P4
                obtain ⟨pz, ⟨rA, rn, rc⟩, vv, hpz, hpl, hrow, gvv, er, hrl, _⟩ := HP.out.t.at_ (i := r) (by omega)
                obtain rfl : p = pz := by injection hpz with hpz; injection hpz
                obtain rfl : v = vv := Option.some.inj (HGv.out.symm.trans gvv)
                have hrl : v.length = rn := hrl
                have hrn : rn = S := by omega
                subst hrn
                have er : wr.cell? ⟨p, r, none⟩ = some (.slice rA rn rc) := er
                obtain ⟨y0, y1, y2⟩ := HP.out.x.three
                have yl := HP.out.x.lt
                have s1 : (0 : Int) < (rn : Int) := by omega
                clear hpz gvv hrow
                go_wp2_with fail
                go_roundw
                case rel => exact ⟨r, T, by go_num, by omega, Lib.hid HP.out.t, HS, HE5, Lib.hid HP.out.e⟩
                case measure => simp [intOf]
end Go.Proofs.YtmdmgndhapdmgaaGreat


/-
  The reference's small functions on letters and numbers.
-/
namespace Go.Proofs.YtmdmgndhapdmgaaGreat
open Go.RowKit

theorem l00Min_any (a b : Int) (w : World) : Calls Tryz.prog 92 #[.int .i64 a, .int .i64 b] w (Ret (.int .i64 (min a b)) w) := by
  go_enter Tryz.func92, Tryz.ntmps92
  go_wp2
  all_goals
    go_ret
    exact ⟨ret_int (by omega), by (repeat first | exact Below.refl _ _ | assumption | refine Below.drew ?_ | refine Below.alloc ?_ (by first | exact Nat.le_refl _ | (simp; done) | omega | (simp; omega)) _ | refine Below.setCell ?_ (by first | exact Nat.le_refl _ | (simp; done) | omega | (simp; omega)) _)⟩
theorem l04Letter_any (c : UInt8) (hc : letB c = true) (w : World) : Calls Tryz.prog 30 #[.int .u8 (c.toNat : Int)] w (Ret (.int .i64 ((c.toNat : Int) - 97)) w) := by
  obtain ⟨h0, h1⟩ := letB_num hc
  clear hc
  go_enter Tryz.func30, Tryz.ntmps30
  go_wp2
  go_ret
  exact ⟨ret_int (by omega), by (repeat first | exact Below.refl _ _ | assumption | refine Below.drew ?_ | refine Below.alloc ?_ (by first | exact Nat.le_refl _ | (simp; done) | omega | (simp; omega)) _ | refine Below.setCell ?_ (by first | exact Nat.le_refl _ | (simp; done) | omega | (simp; omega)) _)⟩
end Go.Proofs.YtmdmgndhapdmgaaGreat


/-
  The states to which the words of rules lead, in the reference.
-/
namespace Go.Proofs.YtmdmgndhapdmgaaGreat
open Go.RowKit

/-- a table and a row of the same type under way -/
structure SmV (w W : World) (A : Option Addr) (k c : Nat) (hs : List RowH) (OUT : List (List Int)) (R : Option Addr) (s cr : Nat) (row : List Int) : Prop where
  t : TabR 61 2 intE W w.heap.size A k c hs OUT
  q : W.ownsRow w.heap.size 2 1 (.slice R s cr) s (row.flatMap intE)
  f : ∀ (i : Nat) (p : RowH) (g : Nat), hs[i]? = some p → (Value.slice p.A p.n p.c).ownBlock = some g → (Value.slice R s cr).ownBlock ≠ some g
  e : Below w.heap.size w W
section
variable {w W W' : World} {A : Option Addr} {k c : Nat} {hs : List RowH} {OUT : List (List Int)} {R : Option Addr} {s cr : Nat} {row : List Int}
theorem SmV.next (h : SmV w W A k c hs OUT R s cr row) (hb : Below W.heap.size W W') : SmV w W' A k c hs OUT R s cr row := ⟨h.t.next hb, own_next h.q hb, h.f, h.e.trans (hb.mono h.e.size)⟩
theorem SmV.alloc (h : SmV w W A k c hs OUT R s cr row) (o : Obj) : SmV w (W.alloc o) A k c hs OUT R s cr row := h.next ((Below.refl _ _).alloc (Nat.le_refl _) o)
theorem SmV.push {R' : Option Addr} {s' cr' : Nat} {row' : List Int} (h : SmV w W A k c hs OUT R s cr row) (ho : W'.ownsRow w.heap.size 2 1 (.slice R' s' cr') s' (row'.flatMap intE)) (hg : W.grownBy W' (Value.slice R s cr).ownBlock)
    (hat : (Value.slice R' s' cr').ownBlock = (Value.slice R s cr).ownBlock ∨ (Value.slice R' s' cr').ownBlock = some W.heap.size) : SmV w W' A k c hs OUT R' s' cr' row' := by
  refine ⟨h.t.kept hg (own_ne h.t.o h.q (by decide)) (fun i p hp => ?_), ho, fun i p g hp hv => ?_, h.e.grown hg h.e.size (own_ge h.q)⟩
  · cases hv : (Value.slice p.A p.n p.c).ownBlock with
    | none => exact .inl rfl
    | some g => exact .inr fun e => h.f i p g hp hv e.symm
  · rcases hat with e | e
    · rw [e]; exact h.f i p g hp hv
    · rw [e]; intro q; injection q with q; have := (h.t.ge i p g hp hv).2; omega
end
set_option maxHeartbeats 4000000 in
set_option maxRecDepth 100000 in
theorem l04Maps_any (S : Nat) (N : Option Addr) (cn : Nat) (nh : List RowH) (nx : List (List Int)) (gp : Nat) (G : Option Addr) (n c : Nat) (rs : List Fac) (w : World) (hS : 1 ≤ S) (hS2 : S ≤ 24) (hn : n ≤ 1048576) (hx : RdT w w.heap.size N S intE nh nx) (hok : NxOk S nx) (hgp : gp < w.heap.size) (hgc : w.cell? ⟨gp, 0, none⟩ = some (.slice G n c)) (hr : Rd w w.heap.size G n 3 Fac.cells rs) (hwf : WF rs) :
    Calls Tryz.prog 41 #[.slice N S cn, .pointer (some ⟨gp, 0, none⟩)] w (RetTab w (maps nx rs)) := by
  have hl := Lib.hid hr.len
  have HX := Lib.hid hx
  have HR := Lib.hid hr
  have HOk := Lib.hid hok
  have HW := Lib.hid hwf
  have hfl := Lib.hid (full_len [] (mF nx) mG (rs := rs))
  clear hx hr hok hwf
  have HG := Lib.hid (fun W (h : Below w.heap.size w W) => show W.cell? ⟨gp, 0, none⟩ = some (.slice G n c) ∧ gp < W.heap.size from ⟨(h.cell (p := ⟨gp, 0, none⟩) hgp).trans hgc, Nat.lt_of_lt_of_le hgp h.size⟩)
  clear hgp hgc
  go_enter Tryz.func41, Tryz.ntmps41
  go_wp2_with fail
  refine named fun w0 H0 => ?_
  have b1 := Lib.hid (show Below w.heap.size w w0 by rw [H0.out]; (repeat first | exact Below.refl _ _ | assumption | refine Below.drew ?_ | refine Below.alloc ?_ (by first | exact Nat.le_refl _ | (simp; done) | omega | (simp; omega)) _ | refine Below.setCell ?_ (by first | exact Nat.le_refl _ | (simp; done) | omega | (simp; omega)) _))
  have T1 := Lib.hid (show TabR 61 2 intE w0 w.heap.size (some ⟨w.heap.size, 0, none⟩) 0 0 [] (outs [] (mF nx) mG rs 0) from ⟨by rw [H0.out]; simpa using World.ownsRow_made (base := w.heap.size) (e := 61) (size := 1) w #[] 0 (Nat.le_refl _) (by unfold maxLen; omega) rfl, rfl, by simp [outs, foldG], fun i h x h1 => by simp at h1, fun i j h h' g h1 => by simp at h1⟩)
  clear H0
  go_loopw [5, 6] (fun o_ i_ w' => ∃ (k : Nat) (A : Option Addr) (c' : Nat) (hs : List RowH), i_ = .int .i64 k ∧ o_ = .slice A k c' ∧ k ≤ n ∧ Hid (TabR 61 2 intE w' w.heap.size A k c' hs (outs [] (mF nx) mG rs k)) ∧ Hid (Below w.heap.size w w')) (fun _ i_ _ => n - (intOf i_).toNat)
  case atStart => exact ⟨0, _, 0, [], rfl, rfl, by omega, T1, b1⟩
  case round =>
    obtain ⟨k, A, c', hs, rfl, rfl, hk, HT, hb⟩ := hrel
    clear T1 b1
    obtain ⟨e1g, e2g⟩ := HG.out wr hb.out
    by_cases hlt : k < n
    · obtain ⟨x, gx⟩ : ∃ x, rs[k]? = some x := ⟨_, List.getElem?_eq_getElem (by rw [hl.out]; exact hlt)⟩
      have HGx := Lib.hid gx
      have Hst := Lib.hid (outs_step [] (mF nx) mG gx)
      have Hol := Lib.hid (outs_len [] (mF nx) mG rs k (by rw [hl.out]; exact hk))
      obtain ⟨mapk, hmapk⟩ : ∃ v, fStep [] (mF nx) mG (outs [] (mF nx) mG rs k) x = v := ⟨_, rfl⟩
      rw [hmapk] at Hst
      have hml : StL S mapk := by
        rw [← hmapk, ← full_at [] (mF nx) mG gx]
        exact maps_ok HOk.out HW.out k (by rw [hl.out]; exact hlt)
      have HWk := Lib.hid (HW.out k x gx)
      have hpm : (∀ s xa xb ra rb t v, x.l.size = 0 → x.a = ((xa : Nat) : Int) → x.b = ((xb : Nat) : Int) → (outs [] (mF nx) mG rs k)[xa]? = some ra → (outs [] (mF nx) mG rs k)[xb]? = some rb → ra[s]? = some ((t : Nat) : Int) → rb[t]? = some v → mapk[s]? = some v) := fun s xa xb ra rb t v h0 ha hb' hra hrb hta hvb => by
        rw [← hmapk]; unfold fStep; rw [if_pos h0, ha, hb', Int.toNat_natCast, Int.toNat_natCast, List.getD_eq_getElem?_getD, List.getD_eq_getElem?_getD, hra, hrb]
        exact mG_at hta hvb
      have hlm : (∀ s r v, x.l.size ≠ 0 → nx[s]? = some r → r[letN x.l]? = some v → mapk[s]? = some v) := fun s r v h0 h1 h2 => by
        rw [← hmapk]; unfold fStep; rw [if_neg h0]; exact mF_at h1 h2
      have HPm := Lib.hid hpm
      have HLm := Lib.hid hlm
      have HMl := Lib.hid hml
      have hOk : ∀ i v, (outs [] (mF nx) mG rs k)[i]? = some v → StL S v := fun i v hv => by
        have hi := (List.getElem?_eq_some_iff.1 hv).1
        rw [Hol.out] at hi
        have h1 := maps_ok HOk.out HW.out i (by rw [hl.out]; omega)
        rw [← outs_full [] (mF nx) mG hi (by rw [hl.out]; omega), List.getD_eq_getElem?_getD, hv] at h1
        exact h1
      have HOut := Lib.hid hOk
      have i0 : (0 : Int) ≤ (k : Int) := by omega
      have i1 : (k : Int) < (n : Int) := by omega
      clear hmapk hpm hlm hml hOk gx
      generalize outs [] (mF nx) mG rs k = OUT at *
      go_wp2_with fail
      refine named fun w2 H2 => ?_
      have hb2 : Below wr.heap.size wr w2 := by rw [H2.out]; (repeat first | exact Below.refl _ _ | assumption | refine Below.drew ?_ | refine Below.alloc ?_ (by first | exact Nat.le_refl _ | (simp; done) | omega | (simp; omega)) _ | refine Below.setCell ?_ (by first | exact Nat.le_refl _ | (simp; done) | omega | (simp; omega)) _)
      have P2 := Lib.hid (show SmV w w2 A k c' hs OUT (some ⟨wr.heap.size, 0, none⟩) 0 0 (mapk.take 0) from ⟨HT.out.next hb2, by
          rw [H2.out]; simpa using World.ownsRow_made (base := w.heap.size) (e := 2) (size := 1) wr #[] 0 hb.out.size (by unfold maxLen; omega) rfl,
        fun i p g hp hv e => by injection e with e; have := (HT.out.ge i p g hp hv).2; have e' : wr.heap.size = g := e; omega, hb.out.trans (hb2.mono hb.out.size)⟩)
      have hbw := hb.out.size
      clear H2 hb2 HT e1g e2g
      go_loopw [7, 8] (fun r_ s_ w' => ∃ (s : Nat) (R : Option Addr) (cr : Nat), s_ = .int .i64 s ∧ r_ = .slice R s cr ∧ s ≤ S ∧ Hid (SmV w w' A k c' hs OUT R s cr (mapk.take s))) (fun _ s_ _ => S - (intOf s_).toNat)
      case atStart => exact ⟨0, _, 0, rfl, rfl, by omega, by simpa using P2⟩
      case round =>
        obtain ⟨s, R, cr, rfl, rfl, hs', HP⟩ := hrel
        clear P2
        by_cases hlt2 : s < S
        · obtain ⟨b, o, x', rfl, hB, gx', c0, c1, c2⟩ := (HR.out.next HP.out.e).fac hlt
          obtain rfl : x = x' := Option.some.inj (HGx.out.symm.trans gx')
          obtain ⟨e1g, e2g⟩ := HG.out wr HP.out.e
          have s0 : (0 : Int) ≤ (s : Int) := by omega
          have s1 : (s : Int) < (S : Int) := by omega
          have P3 := Lib.hid (HP.out.alloc (.cells #[.string x.l, .int .i64 x.a, .int .i64 x.b] 72))
          have X3 := Lib.hid (Blk.new wr 72 #[.string x.l, .int .i64 x.a, .int .i64 x.b])
          clear gx'
          rcases HWk.out with ⟨h0, ha0, ha1, hb0, hb1⟩ | ⟨cc, hcc, hxl, hxa, hxb⟩
          · have e0 := size0 h0
            go_upto_region 12 with fail
            refine named fun w3 H3 => ?_
            have HP3 := Lib.hid (show SmV w w3 A k c' hs OUT R s cr (mapk.take s) by rw [H3.out]; exact P3.out)
            have X4 := Lib.hid (show Blk w3 wr.heap.size 72 #[.string x.l, .int .i64 x.a, .int .i64 x.b] by rw [H3.out]; exact X3.out)
            obtain ⟨X, hX⟩ : ∃ X, wr.heap.size = X := ⟨_, rfl⟩
            rw [hX] at X4 ⊢
            clear HP P3 X3 H3 c0 c1 c2 e1g e2g hX hB
            have HP := HP3
            clear HP3
            obtain ⟨wr, rfl⟩ : ∃ wz : World, wz = w3 := ⟨_, rfl⟩
            obtain ⟨xa, hxa⟩ := Int.eq_ofNat_of_zero_le ha0
            obtain ⟨xb, hxb⟩ := Int.eq_ofNat_of_zero_le hb0
            have hxak : xa < k := by omega
            have hxbk : xb < k := by omega
            obtain ⟨ra, gra⟩ : ∃ ra, OUT[xa]? = some ra := ⟨_, List.getElem?_eq_getElem (by rw [Hol.out]; exact hxak)⟩
            obtain ⟨rb, grb⟩ : ∃ rb, OUT[xb]? = some rb := ⟨_, List.getElem?_eq_getElem (by rw [Hol.out]; exact hxbk)⟩
            have sa := HOut.out xa ra gra
            have sb := HOut.out xb rb grb
            obtain ⟨t, hta, htS⟩ := sa.at_ hlt2
            obtain ⟨v, hvb, hvS⟩ := sb.at_ htS
            have hmv := HPm.out s xa xb ra rb t v h0 hxa hxb gra grb hta hvb
            have HTk := Lib.hid (take_snoc hmv)
            obtain ⟨p, ga, ca, rfl, hpl, _, ea, hga, d1, _⟩ := HP.out.t.cell2 (.int .i64) (fun _ => rfl) gra hta
            obtain ⟨p', gb, cb, hpp, _, _, eb, hgb, d2, _⟩ := HP.out.t.cell2 (.int .i64) (fun _ => rfl) grb hvb
            obtain rfl : p = p' := by injection hpp with hpp; injection hpp
            rw [sa.1] at ea
            rw [sb.1] at eb
            obtain ⟨_, x1, x2⟩ := X4.out.three
            rw [hxa] at x1
            rw [hxb] at x2
            have xl := X4.out.lt
            have HS := Lib.hid (fun W (h : Below wr.heap.size wr W) => show W.cell? ⟨X, 2, none⟩ = some (.int .i64 (xb : Int)) ∧ W.cell? ⟨X, 1, none⟩ = some (.int .i64 (xa : Int)) ∧ W.cell? ⟨p, xb, none⟩ = some (.slice (some ⟨gb, 0, none⟩) S cb) ∧ W.cell? ⟨p, xa, none⟩ = some (.slice (some ⟨ga, 0, none⟩) S ca) ∧ W.cell? ⟨ga, s, none⟩ = some (.int .i64 (t : Int)) ∧ W.cell? ⟨gb, t, none⟩ = some (.int .i64 (v : Int)) from
              ⟨(h.cell (p := ⟨X, 2, none⟩) xl).trans x2, (h.cell (p := ⟨X, 1, none⟩) xl).trans x1, (h.cell (p := ⟨p, xb, none⟩) hpl).trans eb, (h.cell (p := ⟨p, xa, none⟩) hpl).trans ea, (h.cell (p := ⟨ga, s, none⟩) hga).trans d1, (h.cell (p := ⟨gb, t, none⟩) hgb).trans d2⟩)
            have k0 : (0 : Int) ≤ (xa : Int) := by omega
            have k1 : (xa : Int) < (k : Int) := by omega
            have k2 : (0 : Int) ≤ (xb : Int) := by omega
            have k3 : (xb : Int) < (k : Int) := by omega
            have k4 : (0 : Int) ≤ (t : Int) := by omega
            have k5 : (t : Int) < (S : Int) := by omega
            clear hpp gra grb ea eb sa sb hta hvb hmv d1 d2 x1 x2 hxa hxb ha0 ha1 hb0 hb1
            refine wp_region_N (fun W => W.cell? ⟨X, 2, none⟩ = some (.int .i64 (xb : Int)) ∧ W.cell? ⟨X, 1, none⟩ = some (.int .i64 (xa : Int)) ∧ W.cell? ⟨p, xb, none⟩ = some (.slice (some ⟨gb, 0, none⟩) S cb) ∧ W.cell? ⟨p, xa, none⟩ = some (.slice (some ⟨ga, 0, none⟩) S ca) ∧ W.cell? ⟨ga, s, none⟩ = some (.int .i64 (t : Int)) ∧ W.cell? ⟨gb, t, none⟩ = some (.int .i64 (v : Int))) [17, 18] (by kernel_rfl) ?_
            have c0 : Below wr.heap.size wr wr.drew := (Below.refl _ _).drew
            have hS0 := HS.out _ c0
            have P0 := Lib.hid (HP.out.next c0)
            generalize wr.drew = wd at *
            refine wpAnyN_take (i := 0) (v := ?_) rfl (by kernel_rfl) (fun _ _ _ h => h) (by rfl) (fun W hW => ?_) hS0 ?_
            rotate_left
            · obtain ⟨z0, z1, z2, z3, z4, z5⟩ := hW
              go_simp
              try with_reducible rfl
            try simp only [List.getElem_toArray, List.getElem_cons_zero, List.getElem_cons_succ, Act.put, List.setIfInBounds_toArray, List.set_cons_zero, List.set_cons_succ]
            refine wpAnyN_take (i := 1) (v := ?_) rfl (by kernel_rfl) (fun _ _ _ h => h) (by rfl) (fun W hW => ?_) hS0 ?_
            rotate_left
            · obtain ⟨z0, z1, z2, z3, z4, z5⟩ := hW
              go_simp
              try with_reducible rfl
            try simp only [List.getElem_toArray, List.getElem_cons_zero, List.getElem_cons_succ, Act.put, List.setIfInBounds_toArray, List.set_cons_zero, List.set_cons_succ]
            refine wpAnyN_take (i := 2) (v := ?_) rfl (by kernel_rfl) (fun _ _ _ h => h) (by rfl) (fun W hW => ?_) hS0 ?_
            rotate_left
            · obtain ⟨z0, z1, z2, z3, z4, z5⟩ := hW
              go_simp
              try with_reducible rfl
            try simp only [List.getElem_toArray, List.getElem_cons_zero, List.getElem_cons_succ, Act.put, List.setIfInBounds_toArray, List.set_cons_zero, List.set_cons_succ]
            refine wpAnyN_take (i := 3) (v := ?_) rfl (by kernel_rfl) (fun _ _ _ h => h) (by rfl) (fun W hW => ?_) hS0 ?_
            rotate_left
            · obtain ⟨z0, z1, z2, z3, z4, z5⟩ := hW
              go_simp
              try with_reducible rfl
            try simp only [List.getElem_toArray, List.getElem_cons_zero, List.getElem_cons_succ, Act.put, List.setIfInBounds_toArray, List.set_cons_zero, List.set_cons_succ]
            refine wpAnyN_take (i := 4) (v := ?_) rfl (by kernel_rfl) (fun _ _ _ h => h) (by rfl) (fun W hW => ?_) hS0 ?_
            rotate_left
            · obtain ⟨z0, z1, z2, z3, z4, z5⟩ := hW
              go_simp
              try with_reducible rfl
            try simp only [List.getElem_toArray, List.getElem_cons_zero, List.getElem_cons_succ, Act.put, List.setIfInBounds_toArray, List.set_cons_zero, List.set_cons_succ]
            refine wpAnyN_take (i := 5) (v := ?_) rfl (by kernel_rfl) (fun _ _ _ h => h) (by rfl) (fun W hW => ?_) hS0 ?_
            rotate_left
            · obtain ⟨z0, z1, z2, z3, z4, z5⟩ := hW
              go_simp
              try with_reducible rfl
            try simp only [List.getElem_toArray, List.getElem_cons_zero, List.getElem_cons_succ, Act.put, List.setIfInBounds_toArray, List.set_cons_zero, List.set_cons_succ]
            refine wpAnyN_take (i := 6) (v := ?_) rfl (by kernel_rfl) (fun _ _ _ h => h) (by rfl) (fun W hW => ?_) hS0 ?_
            rotate_left
            · obtain ⟨z0, z1, z2, z3, z4, z5⟩ := hW
              go_simp
              try with_reducible rfl
            try simp only [List.getElem_toArray, List.getElem_cons_zero, List.getElem_cons_succ, Act.put, List.setIfInBounds_toArray, List.set_cons_zero, List.set_cons_succ]
            refine wpAnyN_take (i := 7) (v := ?_) rfl (by kernel_rfl) (fun _ _ _ h => h) (by rfl) (fun W hW => ?_) hS0 ?_
            rotate_left
            · obtain ⟨z0, z1, z2, z3, z4, z5⟩ := hW
              go_simp
              try with_reducible rfl
            try simp only [List.getElem_toArray, List.getElem_cons_zero, List.getElem_cons_succ, Act.put, List.setIfInBounds_toArray, List.set_cons_zero, List.set_cons_succ]
            refine wpAnyN_take (i := 8) (v := ?_) rfl (by kernel_rfl) (fun _ _ _ h => h) (by rfl) (fun W hW => ?_) hS0 ?_
            rotate_left
            · obtain ⟨z0, z1, z2, z3, z4, z5⟩ := hW
              go_simp
              try with_reducible rfl
            try simp only [List.getElem_toArray, List.getElem_cons_zero, List.getElem_cons_succ, Act.put, List.setIfInBounds_toArray, List.set_cons_zero, List.set_cons_succ]
            refine wpAnyN_take (i := 9) (v := ?_) rfl (by kernel_rfl) (fun _ _ _ h => h) (by rfl) (fun W hW => ?_) hS0 ?_
            rotate_left
            · obtain ⟨z0, z1, z2, z3, z4, z5⟩ := hW
              go_simp
              try with_reducible rfl
            try simp only [List.getElem_toArray, List.getElem_cons_zero, List.getElem_cons_succ, Act.put, List.setIfInBounds_toArray, List.set_cons_zero, List.set_cons_succ]
            refine wpAnyN_take (i := 10) (v := ?_) rfl (by kernel_rfl) (fun _ _ _ h => h) (by rfl) (fun W hW => ?_) hS0 ?_
            rotate_left
            · obtain ⟨z0, z1, z2, z3, z4, z5⟩ := hW
              go_simp
              try with_reducible rfl
            try simp only [List.getElem_toArray, List.getElem_cons_zero, List.getElem_cons_succ, Act.put, List.setIfInBounds_toArray, List.set_cons_zero, List.set_cons_succ]
            refine wpAnyN_take (i := 11) (v := ?_) rfl (by kernel_rfl) (fun _ _ _ h => h) (by rfl) (fun W hW => ?_) hS0 ?_
            rotate_left
            · obtain ⟨z0, z1, z2, z3, z4, z5⟩ := hW
              go_simp
              try with_reducible rfl
            try simp only [List.getElem_toArray, List.getElem_cons_zero, List.getElem_cons_succ, Act.put, List.setIfInBounds_toArray, List.set_cons_zero, List.set_cons_succ]
            refine wpAnyN_take (i := 12) (v := ?_) rfl (by kernel_rfl) (fun _ _ _ h => h) (by rfl) (fun W hW => ?_) hS0 ?_
            rotate_left
            · obtain ⟨z0, z1, z2, z3, z4, z5⟩ := hW
              go_simp
              try with_reducible rfl
            try simp only [List.getElem_toArray, List.getElem_cons_zero, List.getElem_cons_succ, Act.put, List.setIfInBounds_toArray, List.set_cons_zero, List.set_cons_succ]
            refine wpAnyN_take (i := 13) (v := ?_) rfl (by kernel_rfl) (fun _ _ _ h => h) (by rfl) (fun W hW => ?_) hS0 ?_
            rotate_left
            · obtain ⟨z0, z1, z2, z3, z4, z5⟩ := hW
              go_simp
              try with_reducible rfl
            try simp only [List.getElem_toArray, List.getElem_cons_zero, List.getElem_cons_succ, Act.put, List.setIfInBounds_toArray, List.set_cons_zero, List.set_cons_succ]
            refine wpAnyN_take (i := 14) (v := ?_) rfl (by kernel_rfl) (fun _ _ _ h => h) (by rfl) (fun W hW => ?_) hS0 ?_
            rotate_left
            · obtain ⟨z0, z1, z2, z3, z4, z5⟩ := hW
              go_simp
              try with_reducible rfl
            try simp only [List.getElem_toArray, List.getElem_cons_zero, List.getElem_cons_succ, Act.put, List.setIfInBounds_toArray, List.set_cons_zero, List.set_cons_succ]
            refine wpAnyN_take (i := 15) (v := ?_) rfl (by kernel_rfl) (fun _ _ _ h => h) (by rfl) (fun W hW => ?_) hS0 ?_
            rotate_left
            · obtain ⟨z0, z1, z2, z3, z4, z5⟩ := hW
              go_simp
              try with_reducible rfl
            try simp only [List.getElem_toArray, List.getElem_cons_zero, List.getElem_cons_succ, Act.put, List.setIfInBounds_toArray, List.set_cons_zero, List.set_cons_succ]
            clear hS0
            refine wpAnyN_next (i := 16) rfl (by kernel_rfl) (fun Kc hK => ?_)
            go_simp
            have c7 : Below wr.heap.size wr (wd.alloc (.cells #[.int .i64 (v : Int)] 2)) := c0.alloc c0.size _
            have P7 := Lib.hid (P0.out.alloc (.cells #[.int .i64 (v : Int)] 2))
            refine hK.out _ _ (fun _ => HS.out _ c7) ?_
            clear hK Kc
            try simp only [List.getElem_toArray, List.getElem_cons_zero, List.getElem_cons_succ, Act.put, List.setIfInBounds_toArray, List.set_cons_zero, List.set_cons_succ]
            refine wpAnyN_next (i := 17) rfl (by kernel_rfl) (fun Kc hK => ?_)
            refine step_pushS (by rfl) _ _ _ (by rfl) w.heap.size 2 1 8 elem_int intE R s cr ((mapk).take s) (by rfl) P7.out.q wd.heap.size ((v : Int) : Int) #[.int .i64 (v : Int)] 2 (0, 0) (by rfl) (heap_alloc_new _ _) rfl rfl (by simp [intE, Value.oneCell']) (by omega) (by omega) (by unfold maxLen; omega) P7.out.e.size ?_
            intro A8 cc8 w8 own8 hg8 at8
            have P8 := Lib.hid (P7.out.push own8 hg8 at8)
            clear own8 hg8 at8 P7
            refine hK.out _ _ (fun h => absurd h (by decide)) ?_
            clear hK Kc
            try simp only [List.getElem_toArray, List.getElem_cons_zero, List.getElem_cons_succ, Act.put, List.setIfInBounds_toArray, List.set_cons_zero, List.set_cons_succ]
            refine wpAnyN_next (i := 18) rfl (by kernel_rfl) (fun Kc hK => ?_)
            go_simp
            refine hK.out _ _ (fun h => absurd h (by decide)) ?_
            clear hK Kc
            try simp only [List.getElem_toArray, List.getElem_cons_zero, List.getElem_cons_succ, Act.put, List.setIfInBounds_toArray, List.set_cons_zero, List.set_cons_succ]
            refine wpAnyN_done (by kernel_rfl) ?_ _
            go_wp2_with fail
            go_roundw
            case rel => exact ⟨s + 1, A8, cc8, by go_num, by go_num, by omega, Lib.hid (by rw [HTk.out]; exact P8.out)⟩
            case measure => simp [intOf]; omega
          · have HL2 := Lib.hid hxl
            have e1 := size1 (s := x.l) (by rw [hxl]; show (1 : Nat) ≠ 0; omega)
            have e2 := size1' (s := x.l) (by rw [hxl]; show (1 : Nat) ≠ 0; omega)
            clear hxl hxa hxb
            go_upto_region 11 with fail
            refine named fun w3 H3 => ?_
            have HP3 := Lib.hid (show SmV w w3 A k c' hs OUT R s cr (mapk.take s) by rw [H3.out]; exact P3.out)
            have X4 := Lib.hid (show Blk w3 wr.heap.size 72 #[.string x.l, .int .i64 x.a, .int .i64 x.b] by rw [H3.out]; exact X3.out)
            obtain ⟨X, hX⟩ : ∃ X, wr.heap.size = X := ⟨_, rfl⟩
            rw [hX] at X4 ⊢
            clear HP P3 X3 H3 c0 c1 c2 e1g e2g hX hB e1 e2
            have HP := HP3
            clear HP3
            obtain ⟨wr, rfl⟩ : ∃ wz : World, wz = w3 := ⟨_, rfl⟩
            have hxl := HL2.out
            have hcn := letB_num hcc
            obtain ⟨l, hlc⟩ : ∃ l, cc.toNat - 97 = l := ⟨_, rfl⟩
            have hl4 : l < 4 := by omega
            have hln : letN x.l = l := by rw [hxl, letN_one, hlc]
            obtain ⟨r, t, gr_, hr4, grl, htS⟩ := HOk.out.at_ hlt2 hl4
            have hmv := HLm.out s r (t : Int) (by rw [hxl]; show (1 : Nat) ≠ 0; omega) gr_ (by rw [hln]; exact grl)
            have HTk := Lib.hid (take_snoc hmv)
            obtain ⟨v, hv⟩ : ∃ v : Nat, v = t := ⟨_, rfl⟩
            subst hv
            obtain ⟨nb, no, gr, go_, cr4, rfl, hnB, en, hgB, eg⟩ := (HX.out.next HP.out.e).cell2 (.int .i64) (fun _ => rfl) gr_ grl
            rw [hr4] at en
            obtain ⟨x0, _, _⟩ := X4.out.three
            rw [hxl] at x0
            have xl := X4.out.lt
            have HS := Lib.hid (fun W (h : Below wr.heap.size wr W) => show W.cell? ⟨nb, no + s, none⟩ = some (.slice (some ⟨gr, go_, none⟩) 4 cr4) ∧ W.cell? ⟨X, 0, none⟩ = some (.string ⟨#[cc]⟩) ∧ W.cell? ⟨gr, go_ + l, none⟩ = some (.int .i64 (v : Int)) from
              ⟨(h.cell (p := ⟨nb, no + s, none⟩) hnB).trans en, (h.cell (p := ⟨X, 0, none⟩) xl).trans x0, (h.cell (p := ⟨gr, go_ + l, none⟩) hgB).trans eg⟩)
            have u0 : (0 : Nat) < (⟨#[cc]⟩ : ByteArray).size := Nat.one_pos
            have u1 : IntKind.u8.wrap ((((⟨#[cc]⟩ : ByteArray)[0]'u0).toNat : Int) - 97) = (l : Int) := by
              show IntKind.u8.wrap ((cc.toNat : Int) - 97) = (l : Int)
              rw [IntKind.wrap_u8]; omega
            have k4 : (0 : Int) ≤ (l : Int) := by omega
            have k5 : (l : Int) < 4 := by omega
            have LT := Lib.hid (fun W => show Calls Tryz.prog 30 #[.int .u8 ((((⟨#[cc]⟩ : ByteArray)[0]'u0).toNat : Nat) : Int)] W (Ret (.int .i64 (l : Int)) W) from by
              have h := l04Letter_any cc hcc W
              rw [show (cc.toNat : Int) - 97 = (l : Int) by omega] at h
              exact h)
            clear gr_ hr4 grl hmv en eg x0 hln hlc hxl HL2 hcc
            refine wp_region_N (fun W => W.cell? ⟨nb, no + s, none⟩ = some (.slice (some ⟨gr, go_, none⟩) 4 cr4) ∧ W.cell? ⟨X, 0, none⟩ = some (.string ⟨#[cc]⟩) ∧ W.cell? ⟨gr, go_ + l, none⟩ = some (.int .i64 (v : Int))) [12, 13] (by kernel_rfl) ?_
            have c0 : Below wr.heap.size wr wr.drew := (Below.refl _ _).drew
            have hS0 := HS.out _ c0
            have P0 := Lib.hid (HP.out.next c0)
            generalize wr.drew = wd at *
            refine wpAnyN_take (i := 0) (v := ?_) rfl (by kernel_rfl) (fun _ _ _ h => h) (by rfl) (fun W hW => ?_) hS0 ?_
            rotate_left
            · obtain ⟨z0, z1, z2⟩ := hW
              go_simp
              try with_reducible rfl
            try simp only [List.getElem_toArray, List.getElem_cons_zero, List.getElem_cons_succ, Act.put, List.setIfInBounds_toArray, List.set_cons_zero, List.set_cons_succ]
            refine wpAnyN_take (i := 1) (v := ?_) rfl (by kernel_rfl) (fun _ _ _ h => h) (by rfl) (fun W hW => ?_) hS0 ?_
            rotate_left
            · obtain ⟨z0, z1, z2⟩ := hW
              go_simp
              try with_reducible rfl
            try simp only [List.getElem_toArray, List.getElem_cons_zero, List.getElem_cons_succ, Act.put, List.setIfInBounds_toArray, List.set_cons_zero, List.set_cons_succ]
            refine wpAnyN_take (i := 2) (v := ?_) rfl (by kernel_rfl) (fun _ _ _ h => h) (by rfl) (fun W hW => ?_) hS0 ?_
            rotate_left
            · obtain ⟨z0, z1, z2⟩ := hW
              go_simp
              try with_reducible rfl
            try simp only [List.getElem_toArray, List.getElem_cons_zero, List.getElem_cons_succ, Act.put, List.setIfInBounds_toArray, List.set_cons_zero, List.set_cons_succ]
            refine wpAnyN_take (i := 3) (v := ?_) rfl (by kernel_rfl) (fun _ _ _ h => h) (by rfl) (fun W hW => ?_) hS0 ?_
            rotate_left
            · obtain ⟨z0, z1, z2⟩ := hW
              go_simp
              try with_reducible rfl
            try simp only [List.getElem_toArray, List.getElem_cons_zero, List.getElem_cons_succ, Act.put, List.setIfInBounds_toArray, List.set_cons_zero, List.set_cons_succ]
            refine wpAnyN_take (i := 4) (v := ?_) rfl (by kernel_rfl) (fun _ _ _ h => h) (by rfl) (fun W hW => ?_) hS0 ?_
            rotate_left
            · obtain ⟨z0, z1, z2⟩ := hW
              go_simp
              try with_reducible rfl
            try simp only [List.getElem_toArray, List.getElem_cons_zero, List.getElem_cons_succ, Act.put, List.setIfInBounds_toArray, List.set_cons_zero, List.set_cons_succ]
            refine wpAnyN_take (i := 5) (v := ?_) rfl (by kernel_rfl) (fun _ _ _ h => h) (by rfl) (fun W hW => ?_) hS0 ?_
            rotate_left
            · obtain ⟨z0, z1, z2⟩ := hW
              go_simp
              try with_reducible rfl
            try simp only [List.getElem_toArray, List.getElem_cons_zero, List.getElem_cons_succ, Act.put, List.setIfInBounds_toArray, List.set_cons_zero, List.set_cons_succ]
            refine wpAnyN_take (i := 6) (v := ?_) rfl (by kernel_rfl) (fun _ _ _ h => h) (by rfl) (fun W hW => ?_) hS0 ?_
            rotate_left
            · obtain ⟨z0, z1, z2⟩ := hW
              go_simp
              try with_reducible rfl
            try simp only [List.getElem_toArray, List.getElem_cons_zero, List.getElem_cons_succ, Act.put, List.setIfInBounds_toArray, List.set_cons_zero, List.set_cons_succ]
            refine wpAnyN_take (i := 7) (v := ?_) rfl (by kernel_rfl) (fun _ _ _ h => h) (by rfl) (fun W hW => ?_) hS0 ?_
            rotate_left
            · obtain ⟨z0, z1, z2⟩ := hW
              go_simp
              try with_reducible rfl
            try simp only [List.getElem_toArray, List.getElem_cons_zero, List.getElem_cons_succ, Act.put, List.setIfInBounds_toArray, List.set_cons_zero, List.set_cons_succ]
            clear hS0
            refine wpAnyN_next (i := 8) rfl (by kernel_rfl) (fun Kc hK => ?_)
            go_simp
            go_wp2_with (go_at_call 30; refine (LT.out wd).mono ?_; rintro e w6 ⟨rfl, hb6⟩)
            have c6 : Below wr.heap.size wr w6 := c0.trans (hb6.mono c0.size)
            have P6 := Lib.hid (P0.out.next hb6)
            have hS1 := HS.out _ c6
            refine hK.out _ _ (fun _ => HS.out _ c6) ?_
            clear hK Kc
            try simp only [List.getElem_toArray, List.getElem_cons_zero, List.getElem_cons_succ, Act.put, List.setIfInBounds_toArray, List.set_cons_zero, List.set_cons_succ]
            refine wpAnyN_take (i := 9) (v := ?_) rfl (by kernel_rfl) (fun _ _ _ h => h) (by rfl) (fun W hW => ?_) hS1 ?_
            rotate_left
            · obtain ⟨z0, z1, z2⟩ := hW
              go_simp
              try with_reducible rfl
            try simp only [List.getElem_toArray, List.getElem_cons_zero, List.getElem_cons_succ, Act.put, List.setIfInBounds_toArray, List.set_cons_zero, List.set_cons_succ]
            refine wpAnyN_take (i := 10) (v := ?_) rfl (by kernel_rfl) (fun _ _ _ h => h) (by rfl) (fun W hW => ?_) hS1 ?_
            rotate_left
            · obtain ⟨z0, z1, z2⟩ := hW
              go_simp
              try with_reducible rfl
            try simp only [List.getElem_toArray, List.getElem_cons_zero, List.getElem_cons_succ, Act.put, List.setIfInBounds_toArray, List.set_cons_zero, List.set_cons_succ]
            refine wpAnyN_next (i := 11) rfl (by kernel_rfl) (fun Kc hK => ?_)
            go_simp
            have c7 : Below wr.heap.size wr (w6.alloc (.cells #[.int .i64 (v : Int)] 2)) := c6.alloc c6.size _
            have P7 := Lib.hid (P6.out.alloc (.cells #[.int .i64 (v : Int)] 2))
            refine hK.out _ _ (fun _ => HS.out _ c7) ?_
            clear hK Kc
            try simp only [List.getElem_toArray, List.getElem_cons_zero, List.getElem_cons_succ, Act.put, List.setIfInBounds_toArray, List.set_cons_zero, List.set_cons_succ]
            refine wpAnyN_next (i := 12) rfl (by kernel_rfl) (fun Kc hK => ?_)
            refine step_pushS (by rfl) _ _ _ (by rfl) w.heap.size 2 1 8 elem_int intE R s cr ((mapk).take s) (by rfl) P7.out.q w6.heap.size ((v : Int) : Int) #[.int .i64 (v : Int)] 2 (0, 0) (by rfl) (heap_alloc_new _ _) rfl rfl (by simp [intE, Value.oneCell']) (by omega) (by omega) (by unfold maxLen; omega) P7.out.e.size ?_
            intro A8 cc8 w8 own8 hg8 at8
            have P8 := Lib.hid (P7.out.push own8 hg8 at8)
            clear own8 hg8 at8 P7
            refine hK.out _ _ (fun h => absurd h (by decide)) ?_
            clear hK Kc
            try simp only [List.getElem_toArray, List.getElem_cons_zero, List.getElem_cons_succ, Act.put, List.setIfInBounds_toArray, List.set_cons_zero, List.set_cons_succ]
            refine wpAnyN_next (i := 13) rfl (by kernel_rfl) (fun Kc hK => ?_)
            go_simp
            refine hK.out _ _ (fun h => absurd h (by decide)) ?_
            clear hK Kc
            try simp only [List.getElem_toArray, List.getElem_cons_zero, List.getElem_cons_succ, Act.put, List.setIfInBounds_toArray, List.set_cons_zero, List.set_cons_succ]
            refine wpAnyN_done (by kernel_rfl) ?_ _
            go_wp2_with fail
            go_roundw
            case rel => exact ⟨s + 1, A8, cc8, by go_num, by go_num, by omega, Lib.hid (by rw [HTk.out]; exact P8.out)⟩
            case measure => simp [intOf]; omega
        · obtain rfl : s = S := by omega
          have s1 : ¬ (s : Int) < (s : Int) := by omega
          have htk : mapk.take s = mapk := List.take_of_length_le (by rw [HMl.out.1]; exact Nat.le_refl _)
          rw [htk] at HP
          have P4 := Lib.hid (HP.out.alloc (.cells #[.slice R s cr] 61))
          have hfar := Lib.hid HP.out.f
          have HMl2 := Lib.hid HMl.out.1
          clear htk HP
          go_wp2_with
            (at_builtin
             refine wpList_pushG rfl _ _ _ rfl w.heap.size 61 1 24 elemT encR A k c' hs rfl P4.out.t.o wr.heap.size (⟨R, s, cr⟩ : RowH) #[.slice R s cr] 61 (0, 0) rfl (heap_alloc_new _ _) rfl rfl (by simp [encR, Value.oneCell']) (by omega) (by omega) (by unfold maxLen; omega) P4.out.e.size ?_
             intro A9 c9 w9 own9 hg9 _
             have T9 := Lib.hid (P4.out.t.push (q := ⟨R, s, cr⟩) (by decide) P4.out.q HMl2.out hfar.out own9 hg9)
             have b9 := Lib.hid (P4.out.e.grown hg9 P4.out.e.size (own_ge P4.out.t.o))
             clear own9 hg9)
          go_roundw
          case rel => exact ⟨k + 1, A9, c9, _, by go_num, rfl, by omega, Lib.hid (by rw [Hst.out]; exact T9.out), b9⟩
          case measure => simp [intOf]; omega
    · obtain rfl : k = n := by omega
      have i1 : ¬ (k : Int) < (k : Int) := by omega
      have ho : outs [] (mF nx) mG rs k = maps nx rs := outs_all [] (mF nx) mG rs k (by rw [hl.out]; exact Nat.le_refl _)
      rw [ho] at HT
      have hml : (maps nx rs).length = k := by rw [← hl.out]; exact hfl.out
      go_wp2_with fail
      go_ret
      exact ⟨A, c', hs, ret_slice hml.symm, by rw [hml]; exact HT.out, hb.out⟩
end Go.Proofs.YtmdmgndhapdmgaaGreat


/-
  The length of the code of the word of a grammar, told only so far, in the reference.
-/
namespace Go.Proofs.YtmdmgndhapdmgaaGreat
open Go.RowKit

set_option maxHeartbeats 8000000 in
set_option maxRecDepth 100000 in
theorem l04Coded_any (S q : Nat) (cp gp : Nat) (N O M : Option Addr) (cn co cm : Nat) (nh oh mh : List RowH) (nx : List (List Int)) (ot : List (List ByteArray)) (G : Option Addr) (n c : Nat) (rs : List Fac) (ls : List Int) (w : World) (hS : 1 ≤ S) (hS2 : S ≤ 24) (hn : n ≤ 1048576)
    (hcb : Blk w cp 27 #[.int .i64 (S : Int), .int .i64 (q : Int), .slice N S cn, .slice O S co]) (hgp : gp < w.heap.size) (hgc : w.cell? ⟨gp, 0, none⟩ = some (.slice G n c)) (ho : RdT w w.heap.size O S strEM oh ot) (hok : NxOk S nx) (hot : OtOk S ot) (hr : Rd w w.heap.size G n 3 Fac.cells rs) (hls : gLens rs [] = some ls)
    (hm : RdT w w.heap.size M n intE mh (maps nx rs)) :
    Calls Tryz.prog 73 #[.pointer (some ⟨cp, 0, none⟩), .pointer (some ⟨gp, 0, none⟩), .slice M n cm] w (RetTab w (lensC ot (maps nx rs) rs)) := by
  have hl := Lib.hid hr.len
  have hwf := wf_of hls
  have HO := Lib.hid ho
  have HR := Lib.hid hr
  have HOk := Lib.hid hok
  have HOt := Lib.hid hot
  have HW := Lib.hid hwf
  have HLs := Lib.hid hls
  have hmlen : (maps nx rs).length = rs.length := full_len [] (mF nx) mG
  have HMO := Lib.hid (maps_ok hok hwf)
  have HLO := Lib.hid (lensC_ok hok hot hls)
  have RM := Lib.hid hm
  have HG := Lib.hid (fun W (h : Below w.heap.size w W) => show W.cell? ⟨gp, 0, none⟩ = some (.slice G n c) ∧ gp < W.heap.size from ⟨(h.cell (p := ⟨gp, 0, none⟩) hgp).trans hgc, Nat.lt_of_lt_of_le hgp h.size⟩)
  have C1 := Lib.hid hcb
  generalize maps nx rs = MP at *
  have hML := Lib.hid (show MP.length = n by rw [hmlen]; exact hl.out)
  clear ho hr hok hwf hot hls hm hgp hgc hcb hmlen
  go_enter Tryz.func73, Tryz.ntmps73
  go_wp2_with fail
  have T1 := Lib.hid (show TabR 61 2 intE (w.alloc (.cells #[] 61)) w.heap.size (some ⟨w.heap.size, 0, none⟩) 0 0 [] (outs [] (lF ot) (cGc MP) rs 0) from ⟨by simpa using World.ownsRow_made (base := w.heap.size) (e := 61) (size := 1) w #[] 0 (Nat.le_refl _) (by unfold maxLen; omega) rfl, rfl, by simp [outs, foldG], fun i h x h1 => by simp at h1, fun i j h h' g h1 => by simp at h1⟩)
  have c1_ := Lib.hid (show Below w.heap.size w (w.alloc (.cells #[] 61)) from by (repeat first | exact Below.refl _ _ | assumption | refine Below.drew ?_ | refine Below.alloc ?_ (by first | exact Nat.le_refl _ | (simp; done) | omega | (simp; omega)) _ | refine Below.setCell ?_ (by first | exact Nat.le_refl _ | (simp; done) | omega | (simp; omega)) _))
  go_loopw [7, 8] (fun o_ i_ w' => ∃ (k : Nat) (A : Option Addr) (c' : Nat) (hs : List RowH), i_ = .int .i64 k ∧ o_ = .slice A k c' ∧ k ≤ n ∧ Hid (TabR 61 2 intE w' w.heap.size A k c' hs (outs [] (lF ot) (cGc MP) rs k)) ∧ Hid (Below w.heap.size w w')) (fun _ i_ _ => n - (intOf i_).toNat)
  case atStart => exact ⟨0, _, 0, [], rfl, rfl, by omega, T1, c1_⟩
  case round =>
    obtain ⟨k, A, c', hs, rfl, rfl, hk, HT, hb⟩ := hrel
    clear T1 c1_
    have bw := Lib.hid hb.out
    obtain ⟨e1g, e2g⟩ := HG.out wr hb.out
    obtain ⟨z0, z1, z2, z3⟩ := (show Blk wr cp 27 #[.int .i64 (S : Int), .int .i64 (q : Int), .slice N S cn, .slice O S co] from C1.out.next hb.out).four
    have zl2 := (C1.out.next hb.out).lt
    by_cases hlt : k < n
    · obtain ⟨b, o, x, rfl, hB, gx, c0, c1, c2⟩ := (HR.out.next bw.out).fac hlt
      have Hst := Lib.hid (outs_step [] (lF ot) (cGc MP) gx)
      have Hol := Lib.hid (outs_len [] (lF ot) (cGc MP) rs k (by rw [hl.out]; exact hk))
      obtain ⟨mapk, hmapk⟩ : ∃ v, fStep [] (lF ot) (cGc MP) (outs [] (lF ot) (cGc MP) rs k) x = v := ⟨_, rfl⟩
      rw [hmapk] at Hst
      have hml : LnL S 1000000000000001 mapk := by
        rw [← hmapk, ← full_at [] (lF ot) (cGc MP) gx]
        exact HLO.out k (by rw [hl.out]; exact hlt)
      have HWk := Lib.hid (HW.out k x gx)
      have hpm : (∀ s xa xb t ra rb m v1 v2, x.l.size = 0 → x.a = ((xa : Nat) : Int) → x.b = ((xb : Nat) : Int) → (outs [] (lF ot) (cGc MP) rs k)[xa]? = some ra → (outs [] (lF ot) (cGc MP) rs k)[xb]? = some rb → MP[xa]? = some m → m[s]? = some ((t : Nat) : Int) → ra[s]? = some v1 → rb[t]? = some v2 → mapk[s]? = some (clp (v1 + v2))) := fun s xa xb t ra rb m v1 v2 h0 ha hb' hra hrb hm hms hta hvb => by
        rw [← hmapk]; unfold fStep; rw [if_pos h0, ha, hb', Int.toNat_natCast, Int.toNat_natCast, List.getD_eq_getElem?_getD, List.getD_eq_getElem?_getD, hra, hrb]
        exact cGc_at ha hm hms hta hvb
      have hlm : (∀ (s : Nat) (r : List ByteArray) (v : ByteArray), x.l.size ≠ 0 → ot[s]? = some r → r[letN x.l]? = some v → mapk[s]? = some (v.size : Int)) := fun s r v h0 h1 h2 => by
        rw [← hmapk]; unfold fStep; rw [if_neg h0]; exact lF_at h1 h2
      have HPm := Lib.hid hpm
      have HLm := Lib.hid hlm
      have HMl := Lib.hid hml
      have hOk : ∀ i v, (outs [] (lF ot) (cGc MP) rs k)[i]? = some v → LnL S 1000000000000001 v := fun i v hv => by
        have hi := (List.getElem?_eq_some_iff.1 hv).1
        rw [Hol.out] at hi
        have h1 := HLO.out i (by rw [hl.out]; omega)
        have e1 : (outs [] (lF ot) (cGc MP) rs k).getD i [] = v := by rw [List.getD_eq_getElem?_getD, hv]; rfl
        rw [← outs_full [] (lF ot) (cGc MP) hi (by rw [hl.out]; omega), e1] at h1
        exact h1
      have HOut := Lib.hid hOk
      have i0 : (0 : Int) ≤ (k : Int) := by omega
      have i1 : (k : Int) < (n : Int) := by omega
      clear hmapk hpm hlm hml hOk gx
      generalize outs [] (lF ot) (cGc MP) rs k = OUT at *
      go_wp2_with fail
      refine named fun w2 H2 => ?_
      have hb2 : Below wr.heap.size wr w2 := by rw [H2.out]; (repeat first | exact Below.refl _ _ | assumption | refine Below.drew ?_ | refine Below.alloc ?_ (by first | exact Nat.le_refl _ | (simp; done) | omega | (simp; omega)) _ | refine Below.setCell ?_ (by first | exact Nat.le_refl _ | (simp; done) | omega | (simp; omega)) _)
      have P2 := Lib.hid (show SmW w w2 A k c' hs OUT wr.heap.size x (some ⟨wr.heap.size + 1, 0, none⟩) 0 0 (mapk.take 0) from ⟨HT.out.next hb2, by rw [H2.out]; exact (Blk.new wr _ _).alloc _, by
          rw [H2.out]; simpa using World.ownsRow_made (base := w.heap.size) (e := 2) (size := 1) (wr.alloc (.cells #[.string x.l, .int .i64 x.a, .int .i64 x.b] 72)) #[] 0 (by have := hb.out.size; simp; omega) (by unfold maxLen; omega) rfl,
        fun i p g hp hv e => by injection e with e; have := (HT.out.ge i p g hp hv).2; have e' : wr.heap.size + 1 = g := e; omega, hb.out.trans (hb2.mono hb.out.size)⟩)
      have hxl2 : wr.heap.size < w2.heap.size := P2.out.x.lt
      have hbw := hb.out.size
      obtain ⟨X, hX⟩ : ∃ X, wr.heap.size = X := ⟨_, rfl⟩
      rw [hX] at P2 hxl2 ⊢
      clear H2 hb2 c0 c1 c2 HT hX z0 z1 z2 z3 zl2 e1g e2g
      go_loopw [10, 11] (fun r_ s_ w' => ∃ (s : Nat) (R : Option Addr) (cr : Nat), s_ = .int .i64 s ∧ r_ = .slice R s cr ∧ s ≤ S ∧ Hid (SmW w w' A k c' hs OUT X x R s cr (mapk.take s))) (fun _ s_ _ => S - (intOf s_).toNat)
      case atStart => exact ⟨0, _, 0, rfl, rfl, by omega, by simpa using P2⟩
      case round =>
        obtain ⟨s, R, cr, rfl, rfl, hs', HP⟩ := hrel
        clear P2
        by_cases hlt2 : s < S
        · obtain ⟨z0, z1, z2, z3⟩ := (show Blk wr cp 27 #[.int .i64 (S : Int), .int .i64 (q : Int), .slice N S cn, .slice O S co] from C1.out.next HP.out.e).four
          have zl2 := (C1.out.next HP.out.e).lt
          obtain ⟨e1g, e2g⟩ := HG.out wr HP.out.e
          obtain ⟨x0, x1, x2⟩ := HP.out.x.three
          have xl := HP.out.x.lt
          have s0 : (0 : Int) ≤ (s : Int) := by omega
          have s1 : (s : Int) < (S : Int) := by omega
          have hup := upc wr.heap.size wr
          rcases HWk.out with ⟨h0, ha0, ha1, hb0, hb1⟩ | ⟨cc, hcc, hxl, hxa, hxb⟩
          · have e0 := size0 h0
            obtain ⟨xa, hxa⟩ := Int.eq_ofNat_of_zero_le ha0
            obtain ⟨xb, hxb⟩ := Int.eq_ofNat_of_zero_le hb0
            have hxak : xa < k := by omega
            have hxbk : xb < k := by omega
            obtain ⟨ra, gra⟩ : ∃ ra, OUT[xa]? = some ra := ⟨_, List.getElem?_eq_getElem (by rw [Hol.out]; exact hxak)⟩
            obtain ⟨rb, grb⟩ : ∃ rb, OUT[xb]? = some rb := ⟨_, List.getElem?_eq_getElem (by rw [Hol.out]; exact hxbk)⟩
            obtain ⟨mm, grm⟩ : ∃ mm, MP[xa]? = some mm := ⟨_, List.getElem?_eq_getElem (by rw [hML.out]; omega)⟩
            have sa := HOut.out xa ra gra
            have sb := HOut.out xb rb grb
            have sm : StL S mm := by
              have h := HMO.out xa (by rw [hl.out]; omega)
              rw [List.getD_eq_getElem?_getD, grm] at h
              exact h
            obtain ⟨t, hta, htS⟩ := sm.at_ hlt2
            obtain ⟨v1, hv1, v10, v11⟩ := sa.at_ hlt2
            obtain ⟨v2, hv2, v20, v21⟩ := sb.at_ htS
            have hmv := HPm.out s xa xb t ra rb mm v1 v2 h0 hxa hxb gra grb grm hta hv1 hv2
            have HTk := Lib.hid (take_snoc hmv)
            obtain ⟨p, ga, ca, rfl, hpl, _, ea, hga, d1, _⟩ := HP.out.t.cell2 (.int .i64) (fun _ => rfl) gra hv1
            obtain ⟨p', gb, cb, hpp, _, _, eb, hgb, d2, _⟩ := HP.out.t.cell2 (.int .i64) (fun _ => rfl) grb hv2
            obtain rfl : p = p' := by injection hpp with hpp; injection hpp
            obtain ⟨mp, mo, gm, gmo, cm, rfl, hmpB, em, hgm, dm⟩ := (RM.out.next HP.out.e).cell2 (.int .i64) (fun _ => rfl) grm hta
            rw [sa.1] at ea
            rw [sb.1] at eb
            rw [sm.1] at em
            rw [hxa] at x1
            rw [hxb] at x2
            have k0 : (0 : Int) ≤ (xa : Int) := by omega
            have k1 : (xa : Int) < (k : Int) := by omega
            have k2 : (0 : Int) ≤ (xb : Int) := by omega
            have k3 : (xb : Int) < (k : Int) := by omega
            have k4 : (0 : Int) ≤ (t : Int) := by omega
            have k5 : (t : Int) < (S : Int) := by omega
            have k6 : (xa : Int) < (n : Int) := by omega
            have uw : IntKind.i64.wrap (v1 + v2) = v1 + v2 := IntWalk.i64_in _ (by omega)
            have MN := Lib.hid (fun W => show Calls Tryz.prog 92 #[.int .i64 1000000000000001, .int .i64 (v1 + v2)] W (Ret (.int .i64 (clp (v1 + v2))) W) from l00Min_any _ _ W)
            generalize hvv : clp (v1 + v2) = vv at *
            clear hpp gra grb grm sa sb sm hta hv1 hv2 hmv hxa hxb ha0 ha1 hb0 hb1 hvv
            go_upto_region 13 with fail
            refine wp_region_up wr.heap.size (by kernel_rfl) (by kernel_rfl) ?_
            repeat (go_big_quiet_step ((go_at_call 92; with_reducible exact Calls.upR (Nat.le_refl _) (MN.out _))))
            refine wpQuiet_nil ?_
            intro w6 hup_w6
            have hb6 := up_of hup_w6
            have P6 := Lib.hid ((HP.out.next hb6).alloc (.cells #[.int .i64 vv] 2))
            clear hb6 HP x0 x1 x2 xl z0 z1 z2 z3 zl2 e1g e2g ea eb em d1 d2 dm hup
            go_wp2_with
              (at_builtin
               refine wpList_pushG rfl _ _ _ rfl w.heap.size 2 1 8 elem_int intE R s cr (mapk.take s) rfl P6.out.q w6.heap.size vv _ _ _ rfl (heap_alloc_new _ _) rfl rfl (by simp [intE, Value.oneCell']) (by omega) (by omega) (by unfold maxLen; omega) P6.out.e.size ?_
               intro A9 c9 w9 own9 hg9 hat9
               have P9 := Lib.hid (P6.out.push own9 hg9 hat9)
               clear own9 hg9 hat9)
            go_roundw
            case rel => exact ⟨s + 1, A9, c9, by go_num, rfl, by omega, Lib.hid (by rw [HTk.out]; exact P9.out)⟩
            case measure => simp [intOf]; omega
          · have e1 := size1 (s := x.l) (by rw [hxl]; show (1 : Nat) ≠ 0; omega)
            have e2 := size1' (s := x.l) (by rw [hxl]; show (1 : Nat) ≠ 0; omega)
            have hcn := letB_num hcc
            obtain ⟨l, hlc⟩ : ∃ l, cc.toNat - 97 = l := ⟨_, rfl⟩
            have hl4 : l < 4 := by omega
            have hln : letN x.l = l := by rw [hxl, letN_one, hlc]
            obtain ⟨r, tx_, gr_, hr4, grl, _, htx⟩ := HOt.out.at_ hlt2 hl4
            have hmv := HLm.out s r tx_ (by rw [hxl]; show (1 : Nat) ≠ 0; omega) gr_ (by rw [hln]; exact grl)
            have HTk := Lib.hid (take_snoc hmv)
            obtain ⟨ob, oo, go_, goo, c4, rfl, hnB, en, hgB, eg⟩ := (HO.out.next HP.out.e).cell2 (.string) (fun _ => rfl) gr_ grl
            rw [hr4] at en
            rw [hxl] at x0 e1 e2
            have u0 : (0 : Nat) < (⟨#[cc]⟩ : ByteArray).size := Nat.one_pos
            have k4 : (0 : Int) ≤ (l : Int) := by omega
            have k5 : (l : Int) < 4 := by omega
            have LT := Lib.hid (fun W => show Calls Tryz.prog 30 #[.int .u8 ((((⟨#[cc]⟩ : ByteArray)[0]'u0).toNat : Nat) : Int)] W (Ret (.int .i64 (l : Int)) W) from by
              have h := l04Letter_any cc hcc W
              rw [show (cc.toNat : Int) - 97 = (l : Int) by omega] at h
              exact h)
            clear gr_ hr4 grl hmv hln hlc hxl hxa hxb hcc
            go_upto_region 12 with fail
            refine wp_region_up wr.heap.size (by kernel_rfl) (by kernel_rfl) ?_
            repeat (go_big_quiet_step ((go_at_call 30; with_reducible exact Calls.upR (Nat.le_refl _) (LT.out _))))
            refine wpQuiet_nil ?_
            intro w6 hup_w6
            have hb6 := up_of hup_w6
            have P6 := Lib.hid ((HP.out.next hb6).alloc (.cells #[.int .i64 (tx_.size : Int)] 2))
            clear hb6 HP x0 x1 x2 xl z0 z1 z2 z3 zl2 e1g e2g en eg hup e1 e2
            go_wp2_with
              (at_builtin
               refine wpList_pushG rfl _ _ _ rfl w.heap.size 2 1 8 elem_int intE R s cr (mapk.take s) rfl P6.out.q w6.heap.size (tx_.size : Int) _ _ _ rfl (heap_alloc_new _ _) rfl rfl (by simp [intE, Value.oneCell']) (by omega) (by omega) (by unfold maxLen; omega) P6.out.e.size ?_
               intro A9 c9 w9 own9 hg9 hat9
               have P9 := Lib.hid (P6.out.push own9 hg9 hat9)
               clear own9 hg9 hat9)
            go_roundw
            case rel => exact ⟨s + 1, A9, c9, by go_num, rfl, by omega, Lib.hid (by rw [HTk.out]; exact P9.out)⟩
            case measure => simp [intOf]; omega
        · obtain ⟨z0, z1, z2, z3⟩ := (show Blk wr cp 27 #[.int .i64 (S : Int), .int .i64 (q : Int), .slice N S cn, .slice O S co] from C1.out.next HP.out.e).four
          have zl2 := (C1.out.next HP.out.e).lt
          obtain rfl : s = S := by omega
          have s1 : ¬ (s : Int) < (s : Int) := by omega
          have htk : mapk.take s = mapk := List.take_of_length_le (by rw [HMl.out.1]; exact Nat.le_refl _)
          rw [htk] at HP
          have P4 := Lib.hid (HP.out.alloc (.cells #[.slice R s cr] 61))
          have hfar := Lib.hid HP.out.f
          have HMl2 := Lib.hid HMl.out.1
          clear htk HP
          go_wp2_with
            (at_builtin
             refine wpList_pushG rfl _ _ _ rfl w.heap.size 61 1 24 elemT encR A k c' hs rfl P4.out.t.o wr.heap.size (⟨R, s, cr⟩ : RowH) #[.slice R s cr] 61 (0, 0) rfl (heap_alloc_new _ _) rfl rfl (by simp [encR, Value.oneCell']) (by omega) (by omega) (by unfold maxLen; omega) P4.out.e.size ?_
             intro A9 c9 w9 own9 hg9 _
             have T9 := Lib.hid (P4.out.t.push (q := ⟨R, s, cr⟩) (by decide) P4.out.q HMl2.out hfar.out own9 hg9)
             have b9 := Lib.hid (P4.out.e.grown hg9 P4.out.e.size (own_ge P4.out.t.o))
             clear own9 hg9)
          go_roundw
          case rel => exact ⟨k + 1, A9, c9, _, by go_num, rfl, by omega, Lib.hid (by rw [Hst.out]; exact T9.out), b9⟩
          case measure => simp [intOf]; omega
    · obtain rfl : k = n := by omega
      have i1 : ¬ (k : Int) < (k : Int) := by omega
      have ho : outs [] (lF ot) (cGc MP) rs k = lensC ot MP rs := outs_all [] (lF ot) (cGc MP) rs k (by rw [hl.out]; exact Nat.le_refl _)
      rw [ho] at HT
      have hml : (lensC ot MP rs).length = k := by rw [← hl.out]; exact full_len [] (lF ot) (cGc MP)
      go_wp2_with fail
      go_ret
      exact ⟨A, c', hs, ret_slice hml.symm, by rw [hml]; exact HT.out, hb.out⟩
end Go.Proofs.YtmdmgndhapdmgaaGreat


/-
  The length of the code of the word of a grammar, in the program.
-/
namespace Go.Proofs.YtmdmgndhapdmgaaGreat
open Go.RowKit

theorem sizeC_any (s : ByteArray) (w : World) : Calls Tryz.prog 72 #[.string s] w (Ret (.int .i64 (s.size : Int)) w) := by
  go_enter Tryz.func72, Tryz.ntmps72
  go_wp2_with fail
  go_ret
  exact ⟨rfl, Below.refl _ _⟩
set_option maxHeartbeats 8000000 in
set_option maxRecDepth 100000 in
theorem codedLength_any (S q : Nat) (N O : Option Addr) (cn co : Nat) (nh oh : List RowH) (nx : List (List Int)) (ot : List (List ByteArray)) (G : Option Addr) (n c : Nat) (rs : List Fac) (ls : List Int) (w : World) (hS : 1 ≤ S) (hS2 : S ≤ 24) (hq : q < S) (hn : n ≤ 1048576)
    (hx : RdT w w.heap.size N S intE nh nx) (ho : RdT w w.heap.size O S strEM oh ot) (hok : NxOk S nx) (hot : OtOk S ot) (hr : Rd w w.heap.size G n 3 Fac.cells rs) (hls : gLens rs [] = some ls) :
    Calls Tryz.prog 38 #[.agg #[.int .i64 (S : Int), .int .i64 (q : Int), .slice N S cn, .slice O S co], .agg #[.slice G n c]] w (Ret (.int .i64 (codN nx ot q rs)) w) := by
  have hl := Lib.hid hr.len
  have hwf := wf_of hls
  have HX := Lib.hid hx
  have HO := Lib.hid ho
  have HR := Lib.hid hr
  have HOk := Lib.hid hok
  have HOt := Lib.hid hot
  have HW := Lib.hid hwf
  have HLs := Lib.hid hls
  have SM := Lib.hid (fun W (h : Below w.heap.size w W) => stateMaps_any S N cn nh nx G n c rs W hS hS2 hn (HX.out.next h) hok (HR.out.next h) hwf)
  have hmlen : (maps nx rs).length = rs.length := full_len [] (mF nx) mG
  have HMO := Lib.hid (maps_ok hok hwf)
  have HLO := Lib.hid (lens_ok hok hot hls)
  have hcN : codN nx ot q rs = if rs.length = 0 then 0 else ((lens ot (maps nx rs) rs).getD (rs.length - 1) []).getD q 0 := rfl
  have HCN := Lib.hid hcN
  generalize codN nx ot q rs = CN at *
  generalize maps nx rs = MP at *
  clear hx ho hr hok hwf hot hls hcN
  have B0 := Lib.hid ((Blk.new w 27 #[.int .i64 (S : Int), .int .i64 (q : Int), .slice N S cn, .slice O S co]).alloc (.cells #[.slice G n c] 31))
  have b0 := Lib.hid (show Below w.heap.size w ((w.alloc (.cells #[.int .i64 (S : Int), .int .i64 (q : Int), .slice N S cn, .slice O S co] 27)).alloc (.cells #[.slice G n c] 31)) from by (repeat first | exact Below.refl _ _ | assumption | refine Below.drew ?_ | refine Below.alloc ?_ (by first | exact Nat.le_refl _ | (simp; done) | omega | (simp; omega)) _ | refine Below.setCell ?_ (by first | exact Nat.le_refl _ | (simp; done) | omega | (simp; omega)) _))
  have G0 := Lib.hid (show Blk ((w.alloc (.cells #[.int .i64 (S : Int), .int .i64 (q : Int), .slice N S cn, .slice O S co] 27)).alloc (.cells #[.slice G n c] 31)) (w.heap.size + 1) 31 #[.slice G n c] by
    simpa using Blk.new (w.alloc (.cells #[.int .i64 (S : Int), .int .i64 (q : Int), .slice N S cn, .slice O S co] 27)) 31 #[.slice G n c])
  obtain ⟨z0, z1, z2, z3⟩ := (show Blk _ w.heap.size 27 #[.int .i64 (S : Int), .int .i64 (q : Int), .slice N S cn, .slice O S co] from B0.out).four
  have zl := B0.out.lt
  have y0 := G0.out.cell 0
  have yl := G0.out.lt
  go_enter Tryz.func38, Tryz.ntmps38
  go_wp2_with fail
  refine (SM.out _ b0.out).mono ?_
  rintro e w1 ⟨M, cm, mh, rfl, tabM, hb1⟩
  rw [hmlen, hl.out] at tabM ⊢
  have b1 := Lib.hid (b0.out.trans (hb1.mono b0.out.size))
  have C1 := Lib.hid (B0.out.next hb1)
  have Y1 := Lib.hid (G0.out.next hb1)
  have RM := Lib.hid (tabM.rd (fun _ => rfl))
  have hML := Lib.hid (show MP.length = n by rw [hmlen]; exact hl.out)
  clear tabM hb1 z0 z1 z2 z3 zl y0 yl B0 G0 b0 SM hmlen
  obtain ⟨z0, z1, z2, z3⟩ := (show Blk w1 w.heap.size 27 #[.int .i64 (S : Int), .int .i64 (q : Int), .slice N S cn, .slice O S co] from C1.out).four
  have zl := C1.out.lt
  have y0 := Y1.out.cell 0
  have yl := Y1.out.lt
  go_wp2_with fail
  have T1 := Lib.hid (show TabR 61 2 intE (w1.alloc (.cells #[] 61)) w1.heap.size (some ⟨w1.heap.size, 0, none⟩) 0 0 [] (outs [] (lF ot) (cG MP) rs 0) from ⟨by simpa using World.ownsRow_made (base := w1.heap.size) (e := 61) (size := 1) w1 #[] 0 (Nat.le_refl _) (by unfold maxLen; omega) rfl, rfl, by simp [outs, foldG], fun i h x h1 => by simp at h1, fun i j h h' g h1 => by simp at h1⟩)
  have c1_ := Lib.hid (show Below w1.heap.size w1 (w1.alloc (.cells #[] 61)) from by (repeat first | exact Below.refl _ _ | assumption | refine Below.drew ?_ | refine Below.alloc ?_ (by first | exact Nat.le_refl _ | (simp; done) | omega | (simp; omega)) _ | refine Below.setCell ?_ (by first | exact Nat.le_refl _ | (simp; done) | omega | (simp; omega)) _))
  obtain ⟨cbk, hcbk⟩ : ∃ cbk, w.heap.size = cbk := ⟨_, rfl⟩
  have HCb := Lib.hid hcbk
  rw [hcbk] at C1 zl ⊢
  have C1 := C1
  clear z0 z1 z2 z3 y0 yl hcbk
  go_loopw [6, 19] (fun o_ i_ w' => ∃ (k : Nat) (A : Option Addr) (c' : Nat) (hs : List RowH), i_ = .int .i64 k ∧ o_ = .slice A k c' ∧ k ≤ n ∧ Hid (TabR 61 2 intE w' w1.heap.size A k c' hs (outs [] (lF ot) (cG MP) rs k)) ∧ Hid (Below w1.heap.size w1 w')) (fun _ i_ _ => n - (intOf i_).toNat)
  case atStart => exact ⟨0, _, 0, [], rfl, rfl, by omega, T1, c1_⟩
  case round =>
    obtain ⟨k, A, c', hs, rfl, rfl, hk, HT, hb⟩ := hrel
    clear T1 c1_
    have bw := Lib.hid (b1.out.trans (hb.out.mono b1.out.size))
    obtain ⟨z0, z1, z2, z3⟩ := (show Blk wr cbk 27 #[.int .i64 (S : Int), .int .i64 (q : Int), .slice N S cn, .slice O S co] from C1.out.next hb.out).four
    have zl2 := (C1.out.next hb.out).lt
    by_cases hlt : k < n
    · obtain ⟨b, o, x, rfl, hB, gx, c0, c1, c2⟩ := (HR.out.next bw.out).fac hlt
      have Hst := Lib.hid (outs_step [] (lF ot) (cG MP) gx)
      have Hol := Lib.hid (outs_len [] (lF ot) (cG MP) rs k (by rw [hl.out]; exact hk))
      obtain ⟨mapk, hmapk⟩ : ∃ v, fStep [] (lF ot) (cG MP) (outs [] (lF ot) (cG MP) rs k) x = v := ⟨_, rfl⟩
      rw [hmapk] at Hst
      have hml : LnL S (ls.getD k 0) mapk := by
        rw [← hmapk, ← full_at [] (lF ot) (cG MP) gx]
        exact HLO.out k (by rw [hl.out]; exact hlt)
      have HWk := Lib.hid (HW.out k x gx)
      have hpm : (∀ s xa xb t ra rb m v1 v2, x.l.size = 0 → x.a = ((xa : Nat) : Int) → x.b = ((xb : Nat) : Int) → (outs [] (lF ot) (cG MP) rs k)[xa]? = some ra → (outs [] (lF ot) (cG MP) rs k)[xb]? = some rb → MP[xa]? = some m → m[s]? = some ((t : Nat) : Int) → ra[s]? = some v1 → rb[t]? = some v2 → mapk[s]? = some (v1 + v2)) := fun s xa xb t ra rb m v1 v2 h0 ha hb' hra hrb hm hms hta hvb => by
        rw [← hmapk]; unfold fStep; rw [if_pos h0, ha, hb', Int.toNat_natCast, Int.toNat_natCast, List.getD_eq_getElem?_getD, List.getD_eq_getElem?_getD, hra, hrb]
        exact cG_at ha hm hms hta hvb
      have hlm : (∀ (s : Nat) (r : List ByteArray) (v : ByteArray), x.l.size ≠ 0 → ot[s]? = some r → r[letN x.l]? = some v → mapk[s]? = some (v.size : Int)) := fun s r v h0 h1 h2 => by
        rw [← hmapk]; unfold fStep; rw [if_neg h0]; exact lF_at h1 h2
      have HPm := Lib.hid hpm
      have HLm := Lib.hid hlm
      have HMl := Lib.hid hml
      have hOk : ∀ i v, (outs [] (lF ot) (cG MP) rs k)[i]? = some v → LnL S (ls.getD i 0) v := fun i v hv => by
        have hi := (List.getElem?_eq_some_iff.1 hv).1
        rw [Hol.out] at hi
        have h1 := HLO.out i (by rw [hl.out]; omega)
        have e1 : (outs [] (lF ot) (cG MP) rs k).getD i [] = v := by rw [List.getD_eq_getElem?_getD, hv]; rfl
        rw [← outs_full [] (lF ot) (cG MP) hi (by rw [hl.out]; omega), e1] at h1
        exact h1
      have HOut := Lib.hid hOk
      have i0 : (0 : Int) ≤ (k : Int) := by omega
      have i1 : (k : Int) < (n : Int) := by omega
      clear hmapk hpm hlm hml hOk gx
      generalize outs [] (lF ot) (cG MP) rs k = OUT at *
      go_wp2_with fail
      refine named fun w2 H2 => ?_
      have hb2 : Below wr.heap.size wr w2 := by rw [H2.out]; (repeat first | exact Below.refl _ _ | assumption | refine Below.drew ?_ | refine Below.alloc ?_ (by first | exact Nat.le_refl _ | (simp; done) | omega | (simp; omega)) _ | refine Below.setCell ?_ (by first | exact Nat.le_refl _ | (simp; done) | omega | (simp; omega)) _)
      have P2 := Lib.hid (show SmW w1 w2 A k c' hs OUT wr.heap.size x (some ⟨wr.heap.size + 1, 0, none⟩) 0 0 (mapk.take 0) from ⟨HT.out.next hb2, by rw [H2.out]; exact (Blk.new wr _ _).alloc _, by
          rw [H2.out]; simpa using World.ownsRow_made (base := w1.heap.size) (e := 2) (size := 1) (wr.alloc (.cells #[.string x.l, .int .i64 x.a, .int .i64 x.b] 72)) #[] 0 (by have := hb.out.size; simp; omega) (by unfold maxLen; omega) rfl,
        fun i p g hp hv e => by injection e with e; have := (HT.out.ge i p g hp hv).2; have e' : wr.heap.size + 1 = g := e; omega, hb.out.trans (hb2.mono hb.out.size)⟩)
      have hxl2 : wr.heap.size < w2.heap.size := P2.out.x.lt
      have hbw := hb.out.size
      obtain ⟨X, hX⟩ : ∃ X, wr.heap.size = X := ⟨_, rfl⟩
      rw [hX] at P2 hxl2 ⊢
      clear H2 hb2 c0 c1 c2 HT hX z0 z1 z2 z3 zl2
      go_loopw [9, 27] (fun r_ s_ w' => ∃ (s : Nat) (R : Option Addr) (cr : Nat), s_ = .int .i64 s ∧ r_ = .slice R s cr ∧ s ≤ S ∧ Hid (SmW w1 w' A k c' hs OUT X x R s cr (mapk.take s))) (fun _ s_ _ => S - (intOf s_).toNat)
      case atStart => exact ⟨0, _, 0, rfl, rfl, by omega, by simpa using P2⟩
      case round =>
        obtain ⟨s, R, cr, rfl, rfl, hs', HP⟩ := hrel
        clear P2
        by_cases hlt2 : s < S
        · obtain ⟨x0, x1, x2⟩ := HP.out.x.three
          have xl := HP.out.x.lt
          have s0 : (0 : Int) ≤ (s : Int) := by omega
          have s1 : (s : Int) < (S : Int) := by omega
          have IP := Lib.hid (fun b hb' W => isPair_any x b W hb')
          rcases HWk.out with ⟨h0, ha0, ha1, hb0, hb1⟩ | ⟨cc, hcc, hxl, hxa, hxb⟩
          · have IPt := Lib.hid (IP.out true (by unfold isP; simp [h0]))
            go_wp2_with fail
            refine (IPt.out _).mono ?_
            rintro e w3 ⟨rfl, hb3⟩
            have HP3 := Lib.hid (HP.out.next hb3)
            clear hb3 HP x0 x1 x2 xl IP IPt
            have HP := HP3
            clear HP3
            obtain ⟨wr, rfl⟩ : ∃ wz : World, wz = w3 := ⟨_, rfl⟩
            obtain ⟨xa, hxa⟩ := Int.eq_ofNat_of_zero_le ha0
            obtain ⟨xb, hxb⟩ := Int.eq_ofNat_of_zero_le hb0
            have hxak : xa < k := by omega
            have hxbk : xb < k := by omega
            obtain ⟨ra, gra⟩ : ∃ ra, OUT[xa]? = some ra := ⟨_, List.getElem?_eq_getElem (by rw [Hol.out]; exact hxak)⟩
            obtain ⟨rb, grb⟩ : ∃ rb, OUT[xb]? = some rb := ⟨_, List.getElem?_eq_getElem (by rw [Hol.out]; exact hxbk)⟩
            obtain ⟨mm, grm⟩ : ∃ mm, MP[xa]? = some mm := ⟨_, List.getElem?_eq_getElem (by rw [hML.out]; omega)⟩
            have sa := HOut.out xa ra gra
            have sb := HOut.out xb rb grb
            have sm : StL S mm := by
              have h := HMO.out xa (by rw [hl.out]; omega)
              rw [List.getD_eq_getElem?_getD, grm] at h
              exact h
            obtain ⟨t, hta, htS⟩ := sm.at_ hlt2
            obtain ⟨v1, hv1, v10, v11⟩ := sa.at_ hlt2
            obtain ⟨v2, hv2, v20, v21⟩ := sb.at_ htS
            have lb1 := (lens_bound HLs.out (i := xa) (by rw [hl.out]; omega)).2
            have lb2 := (lens_bound HLs.out (i := xb) (by rw [hl.out]; omega)).2
            have hmv := HPm.out s xa xb t ra rb mm v1 v2 h0 hxa hxb gra grb grm hta hv1 hv2
            have HTk := Lib.hid (take_snoc hmv)
            obtain ⟨p, ga, ca, rfl, hpl, _, ea, hga, d1, _⟩ := HP.out.t.cell2 (.int .i64) (fun _ => rfl) gra hv1
            obtain ⟨p', gb, cb, hpp, _, _, eb, hgb, d2, _⟩ := HP.out.t.cell2 (.int .i64) (fun _ => rfl) grb hv2
            obtain rfl : p = p' := by injection hpp with hpp; injection hpp
            obtain ⟨mp, mo, gm, gmo, cm, rfl, hmpB, em, hgm, dm⟩ := (RM.out.next HP.out.e).cell2 (.int .i64) (fun _ => rfl) grm hta
            rw [sa.1] at ea
            rw [sb.1] at eb
            rw [sm.1] at em
            obtain ⟨_, x1, x2⟩ := HP.out.x.three
            rw [hxa] at x1
            rw [hxb] at x2
            have xl := HP.out.x.lt
            have HS := Lib.hid (fun W (h : Below wr.heap.size wr W) => show W.cell? ⟨X, 1, none⟩ = some (.int .i64 (xa : Int)) ∧ W.cell? ⟨X, 2, none⟩ = some (.int .i64 (xb : Int)) ∧ W.cell? ⟨p, xa, none⟩ = some (.slice (some ⟨ga, 0, none⟩) S ca) ∧ W.cell? ⟨ga, s, none⟩ = some (.int .i64 v1) ∧ W.cell? ⟨p, xb, none⟩ = some (.slice (some ⟨gb, 0, none⟩) S cb) ∧ W.cell? ⟨mp, mo + xa, none⟩ = some (.slice (some ⟨gm, gmo, none⟩) S cm) ∧ W.cell? ⟨gm, gmo + s, none⟩ = some (.int .i64 (t : Int)) ∧ W.cell? ⟨gb, t, none⟩ = some (.int .i64 v2) from
              ⟨(h.cell (p := ⟨X, 1, none⟩) xl).trans x1, (h.cell (p := ⟨X, 2, none⟩) xl).trans x2, (h.cell (p := ⟨p, xa, none⟩) hpl).trans ea, (h.cell (p := ⟨ga, s, none⟩) hga).trans d1, (h.cell (p := ⟨p, xb, none⟩) hpl).trans eb, (h.cell (p := ⟨mp, mo + xa, none⟩) hmpB).trans em, (h.cell (p := ⟨gm, gmo + s, none⟩) hgm).trans dm, (h.cell (p := ⟨gb, t, none⟩) hgb).trans d2⟩)
            have k0 : (0 : Int) ≤ (xa : Int) := by omega
            have k1 : (xa : Int) < (k : Int) := by omega
            have k2 : (0 : Int) ≤ (xb : Int) := by omega
            have k3 : (xb : Int) < (k : Int) := by omega
            have k4 : (0 : Int) ≤ (t : Int) := by omega
            have k5 : (t : Int) < (S : Int) := by omega
            have k6 : (xa : Int) < (n : Int) := by omega
            have uw : IntKind.i64.wrap (v1 + v2) = v1 + v2 := IntWalk.i64_in _ (by omega)
            clear hpp gra grb grm ea eb em sa sb sm hta hv1 hv2 hmv d1 d2 dm x1 x2 hxa hxb ha0 ha1 hb0 hb1 lb1 lb2
            go_upto_region 10 with fail
            refine wp_region_N (fun W => W.cell? ⟨X, 1, none⟩ = some (.int .i64 (xa : Int)) ∧ W.cell? ⟨X, 2, none⟩ = some (.int .i64 (xb : Int)) ∧ W.cell? ⟨p, xa, none⟩ = some (.slice (some ⟨ga, 0, none⟩) S ca) ∧ W.cell? ⟨ga, s, none⟩ = some (.int .i64 v1) ∧ W.cell? ⟨p, xb, none⟩ = some (.slice (some ⟨gb, 0, none⟩) S cb) ∧ W.cell? ⟨mp, mo + xa, none⟩ = some (.slice (some ⟨gm, gmo, none⟩) S cm) ∧ W.cell? ⟨gm, gmo + s, none⟩ = some (.int .i64 (t : Int)) ∧ W.cell? ⟨gb, t, none⟩ = some (.int .i64 v2)) [26, 27] (by kernel_rfl) ?_
            have c0 : Below wr.heap.size wr wr.drew := (Below.refl _ _).drew
            have hS0 := HS.out _ c0
            have P0 := Lib.hid (HP.out.next c0)
            generalize wr.drew = wd at *
            refine wpAnyN_take (i := 0) (v := ?_) rfl (by kernel_rfl) (fun _ _ _ h => h) (by rfl) (fun W hW => ?_) hS0 ?_
            rotate_left
            · obtain ⟨z0, z1, z2, z3, z4, z5, z6, z7⟩ := hW
              go_simp
              try with_reducible rfl
            try simp only [List.getElem_toArray, List.getElem_cons_zero, List.getElem_cons_succ, Act.put, List.setIfInBounds_toArray, List.set_cons_zero, List.set_cons_succ]
            refine wpAnyN_take (i := 1) (v := ?_) rfl (by kernel_rfl) (fun _ _ _ h => h) (by rfl) (fun W hW => ?_) hS0 ?_
            rotate_left
            · obtain ⟨z0, z1, z2, z3, z4, z5, z6, z7⟩ := hW
              go_simp
              try with_reducible rfl
            try simp only [List.getElem_toArray, List.getElem_cons_zero, List.getElem_cons_succ, Act.put, List.setIfInBounds_toArray, List.set_cons_zero, List.set_cons_succ]
            refine wpAnyN_take (i := 2) (v := ?_) rfl (by kernel_rfl) (fun _ _ _ h => h) (by rfl) (fun W hW => ?_) hS0 ?_
            rotate_left
            · obtain ⟨z0, z1, z2, z3, z4, z5, z6, z7⟩ := hW
              go_simp
              try with_reducible rfl
            try simp only [List.getElem_toArray, List.getElem_cons_zero, List.getElem_cons_succ, Act.put, List.setIfInBounds_toArray, List.set_cons_zero, List.set_cons_succ]
            refine wpAnyN_take (i := 3) (v := ?_) rfl (by kernel_rfl) (fun _ _ _ h => h) (by rfl) (fun W hW => ?_) hS0 ?_
            rotate_left
            · obtain ⟨z0, z1, z2, z3, z4, z5, z6, z7⟩ := hW
              go_simp
              try with_reducible rfl
            try simp only [List.getElem_toArray, List.getElem_cons_zero, List.getElem_cons_succ, Act.put, List.setIfInBounds_toArray, List.set_cons_zero, List.set_cons_succ]
            refine wpAnyN_take (i := 4) (v := ?_) rfl (by kernel_rfl) (fun _ _ _ h => h) (by rfl) (fun W hW => ?_) hS0 ?_
            rotate_left
            · obtain ⟨z0, z1, z2, z3, z4, z5, z6, z7⟩ := hW
              go_simp
              try with_reducible rfl
            try simp only [List.getElem_toArray, List.getElem_cons_zero, List.getElem_cons_succ, Act.put, List.setIfInBounds_toArray, List.set_cons_zero, List.set_cons_succ]
            refine wpAnyN_take (i := 5) (v := ?_) rfl (by kernel_rfl) (fun _ _ _ h => h) (by rfl) (fun W hW => ?_) hS0 ?_
            rotate_left
            · obtain ⟨z0, z1, z2, z3, z4, z5, z6, z7⟩ := hW
              go_simp
              try with_reducible rfl
            try simp only [List.getElem_toArray, List.getElem_cons_zero, List.getElem_cons_succ, Act.put, List.setIfInBounds_toArray, List.set_cons_zero, List.set_cons_succ]
            refine wpAnyN_take (i := 6) (v := ?_) rfl (by kernel_rfl) (fun _ _ _ h => h) (by rfl) (fun W hW => ?_) hS0 ?_
            rotate_left
            · obtain ⟨z0, z1, z2, z3, z4, z5, z6, z7⟩ := hW
              go_simp
              try with_reducible rfl
            try simp only [List.getElem_toArray, List.getElem_cons_zero, List.getElem_cons_succ, Act.put, List.setIfInBounds_toArray, List.set_cons_zero, List.set_cons_succ]
            refine wpAnyN_take (i := 7) (v := ?_) rfl (by kernel_rfl) (fun _ _ _ h => h) (by rfl) (fun W hW => ?_) hS0 ?_
            rotate_left
            · obtain ⟨z0, z1, z2, z3, z4, z5, z6, z7⟩ := hW
              go_simp
              try with_reducible rfl
            try simp only [List.getElem_toArray, List.getElem_cons_zero, List.getElem_cons_succ, Act.put, List.setIfInBounds_toArray, List.set_cons_zero, List.set_cons_succ]
            refine wpAnyN_take (i := 8) (v := ?_) rfl (by kernel_rfl) (fun _ _ _ h => h) (by rfl) (fun W hW => ?_) hS0 ?_
            rotate_left
            · obtain ⟨z0, z1, z2, z3, z4, z5, z6, z7⟩ := hW
              go_simp
              try with_reducible rfl
            try simp only [List.getElem_toArray, List.getElem_cons_zero, List.getElem_cons_succ, Act.put, List.setIfInBounds_toArray, List.set_cons_zero, List.set_cons_succ]
            refine wpAnyN_take (i := 9) (v := ?_) rfl (by kernel_rfl) (fun _ _ _ h => h) (by rfl) (fun W hW => ?_) hS0 ?_
            rotate_left
            · obtain ⟨z0, z1, z2, z3, z4, z5, z6, z7⟩ := hW
              go_simp
              try with_reducible rfl
            try simp only [List.getElem_toArray, List.getElem_cons_zero, List.getElem_cons_succ, Act.put, List.setIfInBounds_toArray, List.set_cons_zero, List.set_cons_succ]
            refine wpAnyN_take (i := 10) (v := ?_) rfl (by kernel_rfl) (fun _ _ _ h => h) (by rfl) (fun W hW => ?_) hS0 ?_
            rotate_left
            · obtain ⟨z0, z1, z2, z3, z4, z5, z6, z7⟩ := hW
              go_simp
              try with_reducible rfl
            try simp only [List.getElem_toArray, List.getElem_cons_zero, List.getElem_cons_succ, Act.put, List.setIfInBounds_toArray, List.set_cons_zero, List.set_cons_succ]
            refine wpAnyN_take (i := 11) (v := ?_) rfl (by kernel_rfl) (fun _ _ _ h => h) (by rfl) (fun W hW => ?_) hS0 ?_
            rotate_left
            · obtain ⟨z0, z1, z2, z3, z4, z5, z6, z7⟩ := hW
              go_simp
              try with_reducible rfl
            try simp only [List.getElem_toArray, List.getElem_cons_zero, List.getElem_cons_succ, Act.put, List.setIfInBounds_toArray, List.set_cons_zero, List.set_cons_succ]
            refine wpAnyN_take (i := 12) (v := ?_) rfl (by kernel_rfl) (fun _ _ _ h => h) (by rfl) (fun W hW => ?_) hS0 ?_
            rotate_left
            · obtain ⟨z0, z1, z2, z3, z4, z5, z6, z7⟩ := hW
              go_simp
              try with_reducible rfl
            try simp only [List.getElem_toArray, List.getElem_cons_zero, List.getElem_cons_succ, Act.put, List.setIfInBounds_toArray, List.set_cons_zero, List.set_cons_succ]
            refine wpAnyN_take (i := 13) (v := ?_) rfl (by kernel_rfl) (fun _ _ _ h => h) (by rfl) (fun W hW => ?_) hS0 ?_
            rotate_left
            · obtain ⟨z0, z1, z2, z3, z4, z5, z6, z7⟩ := hW
              go_simp
              try with_reducible rfl
            try simp only [List.getElem_toArray, List.getElem_cons_zero, List.getElem_cons_succ, Act.put, List.setIfInBounds_toArray, List.set_cons_zero, List.set_cons_succ]
            refine wpAnyN_take (i := 14) (v := ?_) rfl (by kernel_rfl) (fun _ _ _ h => h) (by rfl) (fun W hW => ?_) hS0 ?_
            rotate_left
            · obtain ⟨z0, z1, z2, z3, z4, z5, z6, z7⟩ := hW
              go_simp
              try with_reducible rfl
            try simp only [List.getElem_toArray, List.getElem_cons_zero, List.getElem_cons_succ, Act.put, List.setIfInBounds_toArray, List.set_cons_zero, List.set_cons_succ]
            refine wpAnyN_take (i := 15) (v := ?_) rfl (by kernel_rfl) (fun _ _ _ h => h) (by rfl) (fun W hW => ?_) hS0 ?_
            rotate_left
            · obtain ⟨z0, z1, z2, z3, z4, z5, z6, z7⟩ := hW
              go_simp
              try with_reducible rfl
            try simp only [List.getElem_toArray, List.getElem_cons_zero, List.getElem_cons_succ, Act.put, List.setIfInBounds_toArray, List.set_cons_zero, List.set_cons_succ]
            refine wpAnyN_take (i := 16) (v := ?_) rfl (by kernel_rfl) (fun _ _ _ h => h) (by rfl) (fun W hW => ?_) hS0 ?_
            rotate_left
            · obtain ⟨z0, z1, z2, z3, z4, z5, z6, z7⟩ := hW
              go_simp
              try with_reducible rfl
            try simp only [List.getElem_toArray, List.getElem_cons_zero, List.getElem_cons_succ, Act.put, List.setIfInBounds_toArray, List.set_cons_zero, List.set_cons_succ]
            refine wpAnyN_take (i := 17) (v := ?_) rfl (by kernel_rfl) (fun _ _ _ h => h) (by rfl) (fun W hW => ?_) hS0 ?_
            rotate_left
            · obtain ⟨z0, z1, z2, z3, z4, z5, z6, z7⟩ := hW
              go_simp
              try with_reducible rfl
            try simp only [List.getElem_toArray, List.getElem_cons_zero, List.getElem_cons_succ, Act.put, List.setIfInBounds_toArray, List.set_cons_zero, List.set_cons_succ]
            refine wpAnyN_take (i := 18) (v := ?_) rfl (by kernel_rfl) (fun _ _ _ h => h) (by rfl) (fun W hW => ?_) hS0 ?_
            rotate_left
            · obtain ⟨z0, z1, z2, z3, z4, z5, z6, z7⟩ := hW
              go_simp
              try with_reducible rfl
            try simp only [List.getElem_toArray, List.getElem_cons_zero, List.getElem_cons_succ, Act.put, List.setIfInBounds_toArray, List.set_cons_zero, List.set_cons_succ]
            refine wpAnyN_take (i := 19) (v := ?_) rfl (by kernel_rfl) (fun _ _ _ h => h) (by rfl) (fun W hW => ?_) hS0 ?_
            rotate_left
            · obtain ⟨z0, z1, z2, z3, z4, z5, z6, z7⟩ := hW
              go_simp
              try with_reducible rfl
            try simp only [List.getElem_toArray, List.getElem_cons_zero, List.getElem_cons_succ, Act.put, List.setIfInBounds_toArray, List.set_cons_zero, List.set_cons_succ]
            refine wpAnyN_take (i := 20) (v := ?_) rfl (by kernel_rfl) (fun _ _ _ h => h) (by rfl) (fun W hW => ?_) hS0 ?_
            rotate_left
            · obtain ⟨z0, z1, z2, z3, z4, z5, z6, z7⟩ := hW
              go_simp
              try with_reducible rfl
            try simp only [List.getElem_toArray, List.getElem_cons_zero, List.getElem_cons_succ, Act.put, List.setIfInBounds_toArray, List.set_cons_zero, List.set_cons_succ]
            refine wpAnyN_take (i := 21) (v := ?_) rfl (by kernel_rfl) (fun _ _ _ h => h) (by rfl) (fun W hW => ?_) hS0 ?_
            rotate_left
            · obtain ⟨z0, z1, z2, z3, z4, z5, z6, z7⟩ := hW
              go_simp
              try with_reducible rfl
            try simp only [List.getElem_toArray, List.getElem_cons_zero, List.getElem_cons_succ, Act.put, List.setIfInBounds_toArray, List.set_cons_zero, List.set_cons_succ]
            refine wpAnyN_take (i := 22) (v := ?_) rfl (by kernel_rfl) (fun _ _ _ h => h) (by rfl) (fun W hW => ?_) hS0 ?_
            rotate_left
            · obtain ⟨z0, z1, z2, z3, z4, z5, z6, z7⟩ := hW
              go_simp
              try with_reducible rfl
            try simp only [List.getElem_toArray, List.getElem_cons_zero, List.getElem_cons_succ, Act.put, List.setIfInBounds_toArray, List.set_cons_zero, List.set_cons_succ]
            refine wpAnyN_take (i := 23) (v := ?_) rfl (by kernel_rfl) (fun _ _ _ h => h) (by rfl) (fun W hW => ?_) hS0 ?_
            rotate_left
            · obtain ⟨z0, z1, z2, z3, z4, z5, z6, z7⟩ := hW
              go_simp
              try with_reducible rfl
            try simp only [List.getElem_toArray, List.getElem_cons_zero, List.getElem_cons_succ, Act.put, List.setIfInBounds_toArray, List.set_cons_zero, List.set_cons_succ]
            refine wpAnyN_take (i := 24) (v := ?_) rfl (by kernel_rfl) (fun _ _ _ h => h) (by rfl) (fun W hW => ?_) hS0 ?_
            rotate_left
            · obtain ⟨z0, z1, z2, z3, z4, z5, z6, z7⟩ := hW
              go_simp
              try with_reducible rfl
            try simp only [List.getElem_toArray, List.getElem_cons_zero, List.getElem_cons_succ, Act.put, List.setIfInBounds_toArray, List.set_cons_zero, List.set_cons_succ]
            clear hS0
            refine wpAnyN_next (i := 25) rfl (by kernel_rfl) (fun Kc hK => ?_)
            go_simp
            have c7 : Below wr.heap.size wr (wd.alloc (.cells #[.int .i64 (v1 + v2)] 2)) := c0.alloc c0.size _
            have P7 := Lib.hid (P0.out.alloc (.cells #[.int .i64 (v1 + v2)] 2))
            refine hK.out _ _ (fun _ => HS.out _ c7) ?_
            clear hK Kc
            try simp only [List.getElem_toArray, List.getElem_cons_zero, List.getElem_cons_succ, Act.put, List.setIfInBounds_toArray, List.set_cons_zero, List.set_cons_succ]
            refine wpAnyN_next (i := 26) rfl (by kernel_rfl) (fun Kc hK => ?_)
            refine step_pushS (by rfl) _ _ _ (by rfl) w1.heap.size 2 1 8 elem_int intE R s cr ((mapk).take s) (by rfl) P7.out.q wd.heap.size ((v1 + v2) : Int) #[.int .i64 (v1 + v2)] 2 (0, 0) (by rfl) (heap_alloc_new _ _) rfl rfl (by simp [intE, Value.oneCell']) (by omega) (by omega) (by unfold maxLen; omega) P7.out.e.size ?_
            intro A8 cc8 w8 own8 hg8 at8
            have P8 := Lib.hid (P7.out.push own8 hg8 at8)
            clear own8 hg8 at8 P7
            refine hK.out _ _ (fun h => absurd h (by decide)) ?_
            clear hK Kc
            try simp only [List.getElem_toArray, List.getElem_cons_zero, List.getElem_cons_succ, Act.put, List.setIfInBounds_toArray, List.set_cons_zero, List.set_cons_succ]
            refine wpAnyN_next (i := 27) rfl (by kernel_rfl) (fun Kc hK => ?_)
            go_simp
            refine hK.out _ _ (fun h => absurd h (by decide)) ?_
            clear hK Kc
            try simp only [List.getElem_toArray, List.getElem_cons_zero, List.getElem_cons_succ, Act.put, List.setIfInBounds_toArray, List.set_cons_zero, List.set_cons_succ]
            refine wpAnyN_done (by kernel_rfl) ?_ _
            go_wp2_with fail
            go_roundw
            case rel => exact ⟨s + 1, A8, cc8, by go_num, by go_num, by omega, Lib.hid (by rw [HTk.out]; exact P8.out)⟩
            case measure => simp [intOf]; omega
          · have IPf := Lib.hid (IP.out false (by unfold isP; rw [hxl]; rfl))
            have HL2 := Lib.hid hxl
            clear hxl hxa hxb
            go_wp2_with fail
            refine (IPf.out _).mono ?_
            rintro e w3 ⟨rfl, hb3⟩
            have HP3 := Lib.hid (HP.out.next hb3)
            clear hb3 HP x0 x1 x2 xl IP IPf
            have HP := HP3
            clear HP3
            obtain ⟨wr, rfl⟩ : ∃ wz : World, wz = w3 := ⟨_, rfl⟩
            have hxl := HL2.out
            have hcn := letB_num hcc
            obtain ⟨l, hlc⟩ : ∃ l, cc.toNat - 97 = l := ⟨_, rfl⟩
            have hl4 : l < 4 := by omega
            have hln : letN x.l = l := by rw [hxl, letN_one, hlc]
            obtain ⟨r, tx_, gr_, hr4, grl, _, htx⟩ := HOt.out.at_ hlt2 hl4
            have hmv := HLm.out s r tx_ (by rw [hxl]; show (1 : Nat) ≠ 0; omega) gr_ (by rw [hln]; exact grl)
            have HTk := Lib.hid (take_snoc hmv)
            obtain ⟨ob, oo, go_, goo, c4, rfl, hnB, en, hgB, eg⟩ := (HO.out.next (b1.out.trans (HP.out.e.mono b1.out.size))).cell2 (.string) (fun _ => rfl) gr_ grl
            rw [hr4] at en
            obtain ⟨_, _, _, z3⟩ := (show Blk wr cbk 27 #[.int .i64 (S : Int), .int .i64 (q : Int), .slice N S cn, .slice (some ⟨ob, oo, none⟩) S co] from C1.out.next HP.out.e).four
            have zl2 := (C1.out.next HP.out.e).lt
            obtain ⟨x0, _, _⟩ := HP.out.x.three
            rw [hxl] at x0
            have xl := HP.out.x.lt
            have HS := Lib.hid (fun W (h : Below wr.heap.size wr W) => show W.cell? ⟨cbk, 3, none⟩ = some (.slice (some ⟨ob, oo, none⟩) S co) ∧ W.cell? ⟨ob, oo + s, none⟩ = some (.slice (some ⟨go_, goo, none⟩) 4 c4) ∧ W.cell? ⟨X, 0, none⟩ = some (.string ⟨#[cc]⟩) ∧ W.cell? ⟨go_, goo + l, none⟩ = some (.string tx_) from
              ⟨(h.cell (p := ⟨cbk, 3, none⟩) zl2).trans z3, (h.cell (p := ⟨ob, oo + s, none⟩) hnB).trans en, (h.cell (p := ⟨X, 0, none⟩) xl).trans x0, (h.cell (p := ⟨go_, goo + l, none⟩) hgB).trans eg⟩)
            have u0 : (0 : Nat) < (⟨#[cc]⟩ : ByteArray).size := Nat.one_pos
            have u1 : IntKind.u8.wrap ((((⟨#[cc]⟩ : ByteArray)[0]'u0).toNat : Int) - 97) = (l : Int) := by
              show IntKind.u8.wrap ((cc.toNat : Int) - 97) = (l : Int)
              rw [IntKind.wrap_u8]; omega
            have k4 : (0 : Int) ≤ (l : Int) := by omega
            have k5 : (l : Int) < 4 := by omega
            clear gr_ hr4 grl hmv en eg x0 hln hlc hxl HL2 hcc z3
            go_upto_region 11 with fail
            refine wp_region_N (fun W => W.cell? ⟨cbk, 3, none⟩ = some (.slice (some ⟨ob, oo, none⟩) S co) ∧ W.cell? ⟨ob, oo + s, none⟩ = some (.slice (some ⟨go_, goo, none⟩) 4 c4) ∧ W.cell? ⟨X, 0, none⟩ = some (.string ⟨#[cc]⟩) ∧ W.cell? ⟨go_, goo + l, none⟩ = some (.string tx_)) [14, 15] (by kernel_rfl) ?_
            have c0 : Below wr.heap.size wr wr.drew := (Below.refl _ _).drew
            have hS0 := HS.out _ c0
            have P0 := Lib.hid (HP.out.next c0)
            generalize wr.drew = wd at *
            refine wpAnyN_take (i := 0) (v := ?_) rfl (by kernel_rfl) (fun _ _ _ h => h) (by rfl) (fun W hW => ?_) hS0 ?_
            rotate_left
            · obtain ⟨z0, z1, z2, z3⟩ := hW
              go_simp
              try with_reducible rfl
            try simp only [List.getElem_toArray, List.getElem_cons_zero, List.getElem_cons_succ, Act.put, List.setIfInBounds_toArray, List.set_cons_zero, List.set_cons_succ]
            refine wpAnyN_take (i := 1) (v := ?_) rfl (by kernel_rfl) (fun _ _ _ h => h) (by rfl) (fun W hW => ?_) hS0 ?_
            rotate_left
            · obtain ⟨z0, z1, z2, z3⟩ := hW
              go_simp
              try with_reducible rfl
            try simp only [List.getElem_toArray, List.getElem_cons_zero, List.getElem_cons_succ, Act.put, List.setIfInBounds_toArray, List.set_cons_zero, List.set_cons_succ]
            refine wpAnyN_take (i := 2) (v := ?_) rfl (by kernel_rfl) (fun _ _ _ h => h) (by rfl) (fun W hW => ?_) hS0 ?_
            rotate_left
            · obtain ⟨z0, z1, z2, z3⟩ := hW
              go_simp
              try with_reducible rfl
            try simp only [List.getElem_toArray, List.getElem_cons_zero, List.getElem_cons_succ, Act.put, List.setIfInBounds_toArray, List.set_cons_zero, List.set_cons_succ]
            refine wpAnyN_take (i := 3) (v := ?_) rfl (by kernel_rfl) (fun _ _ _ h => h) (by rfl) (fun W hW => ?_) hS0 ?_
            rotate_left
            · obtain ⟨z0, z1, z2, z3⟩ := hW
              go_simp
              try with_reducible rfl
            try simp only [List.getElem_toArray, List.getElem_cons_zero, List.getElem_cons_succ, Act.put, List.setIfInBounds_toArray, List.set_cons_zero, List.set_cons_succ]
            refine wpAnyN_take (i := 4) (v := ?_) rfl (by kernel_rfl) (fun _ _ _ h => h) (by rfl) (fun W hW => ?_) hS0 ?_
            rotate_left
            · obtain ⟨z0, z1, z2, z3⟩ := hW
              go_simp
              try with_reducible rfl
            try simp only [List.getElem_toArray, List.getElem_cons_zero, List.getElem_cons_succ, Act.put, List.setIfInBounds_toArray, List.set_cons_zero, List.set_cons_succ]
            refine wpAnyN_take (i := 5) (v := ?_) rfl (by kernel_rfl) (fun _ _ _ h => h) (by rfl) (fun W hW => ?_) hS0 ?_
            rotate_left
            · obtain ⟨z0, z1, z2, z3⟩ := hW
              go_simp
              try with_reducible rfl
            try simp only [List.getElem_toArray, List.getElem_cons_zero, List.getElem_cons_succ, Act.put, List.setIfInBounds_toArray, List.set_cons_zero, List.set_cons_succ]
            refine wpAnyN_take (i := 6) (v := ?_) rfl (by kernel_rfl) (fun _ _ _ h => h) (by rfl) (fun W hW => ?_) hS0 ?_
            rotate_left
            · obtain ⟨z0, z1, z2, z3⟩ := hW
              go_simp
              try with_reducible rfl
            try simp only [List.getElem_toArray, List.getElem_cons_zero, List.getElem_cons_succ, Act.put, List.setIfInBounds_toArray, List.set_cons_zero, List.set_cons_succ]
            refine wpAnyN_take (i := 7) (v := ?_) rfl (by kernel_rfl) (fun _ _ _ h => h) (by rfl) (fun W hW => ?_) hS0 ?_
            rotate_left
            · obtain ⟨z0, z1, z2, z3⟩ := hW
              go_simp
              try with_reducible rfl
            try simp only [List.getElem_toArray, List.getElem_cons_zero, List.getElem_cons_succ, Act.put, List.setIfInBounds_toArray, List.set_cons_zero, List.set_cons_succ]
            refine wpAnyN_take (i := 8) (v := ?_) rfl (by kernel_rfl) (fun _ _ _ h => h) (by rfl) (fun W hW => ?_) hS0 ?_
            rotate_left
            · obtain ⟨z0, z1, z2, z3⟩ := hW
              go_simp
              try with_reducible rfl
            try simp only [List.getElem_toArray, List.getElem_cons_zero, List.getElem_cons_succ, Act.put, List.setIfInBounds_toArray, List.set_cons_zero, List.set_cons_succ]
            refine wpAnyN_take (i := 9) (v := ?_) rfl (by kernel_rfl) (fun _ _ _ h => h) (by rfl) (fun W hW => ?_) hS0 ?_
            rotate_left
            · obtain ⟨z0, z1, z2, z3⟩ := hW
              go_simp
              try with_reducible rfl
            try simp only [List.getElem_toArray, List.getElem_cons_zero, List.getElem_cons_succ, Act.put, List.setIfInBounds_toArray, List.set_cons_zero, List.set_cons_succ]
            refine wpAnyN_take (i := 10) (v := ?_) rfl (by kernel_rfl) (fun _ _ _ h => h) (by rfl) (fun W hW => ?_) hS0 ?_
            rotate_left
            · obtain ⟨z0, z1, z2, z3⟩ := hW
              go_simp
              try with_reducible rfl
            try simp only [List.getElem_toArray, List.getElem_cons_zero, List.getElem_cons_succ, Act.put, List.setIfInBounds_toArray, List.set_cons_zero, List.set_cons_succ]
            refine wpAnyN_take (i := 11) (v := ?_) rfl (by kernel_rfl) (fun _ _ _ h => h) (by rfl) (fun W hW => ?_) hS0 ?_
            rotate_left
            · obtain ⟨z0, z1, z2, z3⟩ := hW
              go_simp
              try with_reducible rfl
            try simp only [List.getElem_toArray, List.getElem_cons_zero, List.getElem_cons_succ, Act.put, List.setIfInBounds_toArray, List.set_cons_zero, List.set_cons_succ]
            clear hS0
            refine wpAnyN_next (i := 12) rfl (by kernel_rfl) (fun Kc hK => ?_)
            go_simp
            go_wp2_with (go_at_call 72; refine (sizeC_any tx_ wd).mono ?_; rintro e w6 ⟨rfl, hb6⟩)
            have c6 : Below wr.heap.size wr w6 := c0.trans (hb6.mono c0.size)
            have P6 := Lib.hid (P0.out.next hb6)
            refine hK.out _ _ (fun _ => HS.out _ c6) ?_
            clear hK Kc
            try simp only [List.getElem_toArray, List.getElem_cons_zero, List.getElem_cons_succ, Act.put, List.setIfInBounds_toArray, List.set_cons_zero, List.set_cons_succ]
            refine wpAnyN_next (i := 13) rfl (by kernel_rfl) (fun Kc hK => ?_)
            go_simp
            have c7 : Below wr.heap.size wr (w6.alloc (.cells #[.int .i64 (tx_.size : Int)] 2)) := c6.alloc c6.size _
            have P7 := Lib.hid (P6.out.alloc (.cells #[.int .i64 (tx_.size : Int)] 2))
            refine hK.out _ _ (fun _ => HS.out _ c7) ?_
            clear hK Kc
            try simp only [List.getElem_toArray, List.getElem_cons_zero, List.getElem_cons_succ, Act.put, List.setIfInBounds_toArray, List.set_cons_zero, List.set_cons_succ]
            refine wpAnyN_next (i := 14) rfl (by kernel_rfl) (fun Kc hK => ?_)
            refine step_pushS (by rfl) _ _ _ (by rfl) w1.heap.size 2 1 8 elem_int intE R s cr ((mapk).take s) (by rfl) P7.out.q w6.heap.size ((tx_.size : Int) : Int) #[.int .i64 (tx_.size : Int)] 2 (0, 0) (by rfl) (heap_alloc_new _ _) rfl rfl (by simp [intE, Value.oneCell']) (by omega) (by omega) (by unfold maxLen; omega) P7.out.e.size ?_
            intro A8 cc8 w8 own8 hg8 at8
            have P8 := Lib.hid (P7.out.push own8 hg8 at8)
            clear own8 hg8 at8 P7
            refine hK.out _ _ (fun h => absurd h (by decide)) ?_
            clear hK Kc
            try simp only [List.getElem_toArray, List.getElem_cons_zero, List.getElem_cons_succ, Act.put, List.setIfInBounds_toArray, List.set_cons_zero, List.set_cons_succ]
            refine wpAnyN_next (i := 15) rfl (by kernel_rfl) (fun Kc hK => ?_)
            go_simp
            refine hK.out _ _ (fun h => absurd h (by decide)) ?_
            clear hK Kc
            try simp only [List.getElem_toArray, List.getElem_cons_zero, List.getElem_cons_succ, Act.put, List.setIfInBounds_toArray, List.set_cons_zero, List.set_cons_succ]
            refine wpAnyN_done (by kernel_rfl) ?_ _
            go_wp2_with fail
            go_roundw
            case rel => exact ⟨s + 1, A8, cc8, by go_num, by go_num, by omega, Lib.hid (by rw [HTk.out]; exact P8.out)⟩
            case measure => simp [intOf]; omega
        · obtain rfl : s = S := by omega
          have s1 : ¬ (s : Int) < (s : Int) := by omega
          have htk : mapk.take s = mapk := List.take_of_length_le (by rw [HMl.out.1]; exact Nat.le_refl _)
          rw [htk] at HP
          have P4 := Lib.hid (HP.out.alloc (.cells #[.slice R s cr] 61))
          have hfar := Lib.hid HP.out.f
          have HMl2 := Lib.hid HMl.out.1
          clear htk HP
          go_wp2_with
            (at_builtin
             refine wpList_pushG rfl _ _ _ rfl w1.heap.size 61 1 24 elemT encR A k c' hs rfl P4.out.t.o wr.heap.size (⟨R, s, cr⟩ : RowH) #[.slice R s cr] 61 (0, 0) rfl (heap_alloc_new _ _) rfl rfl (by simp [encR, Value.oneCell']) (by omega) (by omega) (by unfold maxLen; omega) P4.out.e.size ?_
             intro A9 c9 w9 own9 hg9 _
             have T9 := Lib.hid (P4.out.t.push (q := ⟨R, s, cr⟩) (by decide) P4.out.q HMl2.out hfar.out own9 hg9)
             have b9 := Lib.hid (P4.out.e.grown hg9 P4.out.e.size (own_ge P4.out.t.o))
             clear own9 hg9)
          go_roundw
          case rel => exact ⟨k + 1, A9, c9, _, by go_num, rfl, by omega, Lib.hid (by rw [Hst.out]; exact T9.out), b9⟩
          case measure => simp [intOf]; omega
    · obtain rfl : k = n := by omega
      have i1 : ¬ (k : Int) < (k : Int) := by omega
      have ho : outs [] (lF ot) (cG MP) rs k = lens ot MP rs := outs_all [] (lF ot) (cG MP) rs k (by rw [hl.out]; exact Nat.le_refl _)
      rw [ho] at HT
      have hll : (lens ot MP rs).length = k := by rw [← hl.out]; exact full_len [] (lF ot) (cG MP)
      rcases Nat.eq_zero_or_pos k with hk0 | hk0
      · have hC : CN = 0 := by rw [HCN.out, if_pos (by rw [hl.out]; exact hk0)]
        have e0 : ((k : Int) == 0) = true := by simp [hk0]
        have HC := Lib.hid hC
        clear ho HCN hC
        go_wp2_with fail
        go_ret
        exact ⟨by rw [HC.out]; rfl, bw.out⟩
      · have e0 : ((k : Int) == 0) = false := by simp; omega
        obtain ⟨j, hj⟩ : ∃ j, k = j + 1 := ⟨k - 1, by omega⟩
        have hlo := HLO.out j (by rw [hl.out]; omega)
        obtain ⟨v, hv, _, _⟩ := hlo.at_ hq
        have hgr : (lens ot MP rs)[j]? = some ((lens ot MP rs).getD j []) := by
          rw [List.getD_eq_getElem?_getD, List.getElem?_eq_getElem (by omega)]; rfl
        have hC : CN = v := by
          rw [HCN.out, if_neg (by rw [hl.out]; omega), hl.out, show k - 1 = j by omega]
          rw [List.getD_eq_getElem?_getD, hv]; rfl
        obtain ⟨p, g, cq, rfl, hpl, _, ep, hgl, eg, _⟩ := HT.out.cell2 (.int .i64) (fun _ => rfl) hgr hv
        rw [hlo.1] at ep
        have HC := Lib.hid hC
        have u1 : IntKind.i64.wrap ((k : Int) - 1) = (j : Int) := by rw [IntWalk.i64_in _ (by omega)]; omega
        have j0 : (0 : Int) ≤ (j : Int) := by omega
        have j1 : (j : Int) < (k : Int) := by omega
        have j2 : (0 : Int) ≤ (q : Int) := by omega
        have j3 : (q : Int) < (S : Int) := by omega
        have hup := upc wr.heap.size wr
        clear ho HCN hlo hv hgr hC hj
        go_upto_region 17 with fail
        refine wp_region_up wr.heap.size (by kernel_rfl) (by kernel_rfl) ?_
        repeat (go_big_quiet_step (fail))
        refine wpQuiet_nil ?_
        intro w3 hup_w3
        have hb3 := up_of hup_w3
        go_wp2_with fail
        go_ret
        exact ⟨by rw [HC.out]; rfl, bw.out.trans (hb3.mono bw.out.size)⟩
end Go.Proofs.YtmdmgndhapdmgaaGreat


/-
  Equality of lists of texts, and whether marks are still there.
-/
namespace Go.Proofs.YtmdmgndhapdmgaaGreat
open Go.RowKit

end Go.Proofs.YtmdmgndhapdmgaaGreat


/-
  slices.IndexFunc and slices.ContainsFunc over texts; lists of texts measured and copied.
-/
namespace Go.Proofs.YtmdmgndhapdmgaaGreat
open Go.RowKit

set_option maxHeartbeats 1000000 in
theorem indexStr_any (fp : Nat) (ep : EnterOk fp) (cp : Array Value) (p : ByteArray → Bool) (A : Option Addr) (n c : Nat) (zs : List ByteArray) (w : World) (hn : n ≤ 1048576) (hr : Rd w w.heap.size A n 1 strEM zs)
    (hP : ∀ (k : Nat) (x : ByteArray), zs[k]? = some x → ∀ w', Below w.heap.size w w' → Calls Tryz.prog fp (#[.string x] ++ cp) w' (Ret (.bool (p x)) w')) :
    Calls Tryz.prog 82 #[.slice A n c, .func (.func fp) #[] cp] w (Ret (.int .i64 (findI p zs 0)) w) := by
  have hl := Lib.hid hr.len
  have HP := Lib.hid hP; clear hP
  unfold EnterOk at ep
  go_enter Tryz.func82, Tryz.ntmps82
  go_wp2_with fail
  go_loopw [8] (fun i_ w' => ∃ k : Nat, i_ = .int .i64 k ∧ k ≤ n ∧ Below w.heap.size w w' ∧ Hid (findI p (zs.drop k) k = findI p zs 0)) (fun i_ _ => n - (intOf i_).toNat)
  case atStart => exact ⟨0, rfl, by omega, Below.refl _ _, Lib.hid rfl⟩
  case round =>
    obtain ⟨k, rfl, hk, hb, H⟩ := hrel
    by_cases hlt : k < n
    · obtain ⟨b, o, x, rfl, hB, gx, c0⟩ := (show Rd wr wr.heap.size A n 1 (fun s => [.string s]) zs from hr.next hb).str hlt
      have H' := Lib.hid (show (if p x = true then (k : Int) else findI p (zs.drop (k + 1)) (k + 1)) = findI p zs 0 by rw [← H.out, drop_cons gx]; rfl)
      have hc := HP.out k x gx wr hb
      clear gx H
      rcases hp : p x with _ | _
      all_goals
        rw [hp] at hc
        have Hp := Lib.hid hp; clear hp
        have Hc := Lib.hid hc; clear hc
        go_wp2_with fail
        refine Hc.out.mono ?_
        rintro e w1 ⟨rfl, hb1⟩
        go_wp2_with fail
        first
          | (go_ret
             exact ⟨ret_int (by rw [← H'.out, Hp.out]; rfl), hb.trans (hb1.mono hb.size)⟩)
          | (go_roundw
             case rel => exact ⟨k + 1, by go_num, by omega, hb.trans (hb1.mono hb.size), Lib.hid (by rw [← H'.out, Hp.out]; rfl)⟩
             case measure => simp [intOf]; omega)
    · go_wp2_with fail
      go_ret
      exact ⟨ret_int (by rw [← H.out, List.drop_of_length_le (by rw [hl.out]; omega)]; rfl), hb⟩
theorem containsStr_any (fp : Nat) (ep : EnterOk fp) (cp : Array Value) (p : ByteArray → Bool) (A : Option Addr) (n c : Nat) (zs : List ByteArray) (w : World) (hn : n ≤ 1048576) (hr : Rd w w.heap.size A n 1 strEM zs)
    (hP : ∀ (k : Nat) (x : ByteArray), zs[k]? = some x → ∀ w', Below w.heap.size w w' → Calls Tryz.prog fp (#[.string x] ++ cp) w' (Ret (.bool (p x)) w')) :
    Calls Tryz.prog 49 #[.slice A n c, .func (.func fp) #[] cp] w (Ret (.bool (zs.any p)) w) := by
  have e := Lib.hid (findI_any p zs 0 (by omega))
  have Hc := Lib.hid (indexStr_any fp ep cp p A n c zs w hn hr hP)
  clear hP hr
  go_enter Tryz.func49, Tryz.ntmps49
  go_wp2_with fail
  refine Hc.out.mono ?_
  rintro e1 w1 ⟨rfl, hb1⟩
  go_wp2_with fail
  go_ret
  exact ⟨ret_bool e.out, hb1⟩
end Go.Proofs.YtmdmgndhapdmgaaGreat


/-
  The length of the code of the word of a grammar, in the reference; whether a coder is valid, on both sides.
-/
namespace Go.Proofs.YtmdmgndhapdmgaaGreat
open Go.RowKit

set_option maxHeartbeats 4000000 in
set_option maxRecDepth 100000 in
theorem l04Long_any (S q : Nat) (cp gp : Nat) (N O : Option Addr) (cn co : Nat) (nh oh : List RowH) (nx : List (List Int)) (ot : List (List ByteArray)) (G : Option Addr) (n c : Nat) (rs : List Fac) (ls : List Int) (w : World) (hS : 1 ≤ S) (hS2 : S ≤ 24) (hq : q < S) (hn : n ≤ 1048576)
    (hcb : Blk w cp 27 #[.int .i64 (S : Int), .int .i64 (q : Int), .slice N S cn, .slice O S co]) (hgp : gp < w.heap.size) (hgc : w.cell? ⟨gp, 0, none⟩ = some (.slice G n c)) (hx : RdT w w.heap.size N S intE nh nx) (ho : RdT w w.heap.size O S strEM oh ot) (hok : NxOk S nx) (hot : OtOk S ot) (hr : Rd w w.heap.size G n 3 Fac.cells rs) (hls : gLens rs [] = some ls) :
    Calls Tryz.prog 40 #[.pointer (some ⟨cp, 0, none⟩), .pointer (some ⟨gp, 0, none⟩)] w (Ret (.int .i64 (clp (codN nx ot q rs))) w) := by
  have hl := hr.len
  have hwf := wf_of hls
  have HX := Lib.hid hx
  have HO := Lib.hid ho
  have HR := Lib.hid hr
  have hmlen : (maps nx rs).length = n := by rw [← hl]; exact full_len [] (mF nx) mG
  have hllen : (lensC ot (maps nx rs) rs).length = n := by rw [← hl]; exact full_len [] (lF ot) (cGc (maps nx rs))
  have HG := Lib.hid (fun W (h : Below w.heap.size w W) => show W.cell? ⟨gp, 0, none⟩ = some (.slice G n c) ∧ gp < W.heap.size from ⟨(h.cell (p := ⟨gp, 0, none⟩) hgp).trans hgc, Nat.lt_of_lt_of_le hgp h.size⟩)
  have HB := Lib.hid hcb
  have SM := Lib.hid (fun W (h : Below w.heap.size w W) => l04Maps_any S N cn nh nx gp G n c rs W hS hS2 hn (HX.out.next h) hok (HG.out W h).2 (HG.out W h).1 (HR.out.next h) hwf)
  have SC := Lib.hid (fun W (h : Below w.heap.size w W) (M : Option Addr) (cm : Nat) (mh : List RowH) (hm : RdT W W.heap.size M n intE mh (maps nx rs)) => l04Coded_any S q cp gp N O M cn co cm nh oh mh nx ot G n c rs ls W hS hS2 hn (HB.out.next h) (HG.out W h).2 (HG.out W h).1 (HO.out.next h) hok hot (HR.out.next h) hls hm)
  have HM1 := Lib.hid hmlen
  have HL1 := Lib.hid hllen
  have gl := hgp
  have z0 := hgc
  have HS := Lib.hid (fun W (h : Below w.heap.size w W) => show W.cell? ⟨cp, 2, none⟩ = some (.slice N S cn) ∧ W.cell? ⟨gp, 0, none⟩ = some (.slice G n c) ∧ W.cell? ⟨cp, 1, none⟩ = some (.int .i64 (q : Int)) from ⟨(h.cell (p := ⟨cp, 2, none⟩) hcb.lt).trans (hcb.cell 2), (HG.out W h).1, (h.cell (p := ⟨cp, 1, none⟩) hcb.lt).trans (hcb.cell 1)⟩)
  rcases Nat.eq_zero_or_pos n with hn0 | hn0
  · have hC : clp (codN nx ot q rs) = 0 := by unfold codN; rw [if_pos (by omega)]; rfl
    have HC := Lib.hid hC
    have e0 : ((n : Int) == 0) = true := by simp [hn0]
    generalize clp (codN nx ot q rs) = CN at *
    clear hcb hx ho hr hC SM SC HS hl hmlen hllen hn0
    go_enter Tryz.func40, Tryz.ntmps40
    go_wp2_with fail
    go_ret
    exact ⟨by rw [HC.out]; rfl, Below.refl _ _⟩
  · have e0 : ((n : Int) == 0) = false := by simp; omega
    obtain ⟨j, hj⟩ : ∃ j, n = j + 1 := ⟨n - 1, by omega⟩
    have hlo := lensC_ok hok hot hls j (by omega)
    obtain ⟨v, hv', _, _⟩ := hlo.at_ hq
    have hgr' : (lensC ot (maps nx rs) rs)[j]? = some ((lensC ot (maps nx rs) rs).getD j []) := by
      rw [List.getD_eq_getElem?_getD, List.getElem?_eq_getElem (by omega)]; rfl
    have hC : clp (codN nx ot q rs) = v := by
      rw [← codN_clp hok hot hls hq (by omega), hl, show n - 1 = j by omega, List.getD_eq_getElem?_getD, hv']; rfl
    have HC := Lib.hid hC
    have hgr := Lib.hid hgr'
    have hv := Lib.hid hv'
    have hrl := Lib.hid hlo.1
    have u1 : IntKind.i64.wrap ((n : Int) - 1) = (j : Int) := by rw [IntWalk.i64_in _ (by omega)]; omega
    have j0 : (0 : Int) ≤ (j : Int) := by omega
    have j1 : (j : Int) < (n : Int) := by omega
    have j2 : (0 : Int) ≤ (q : Int) := by omega
    have j3 : (q : Int) < (S : Int) := by omega
    have zl := hcb.lt
    generalize clp (codN nx ot q rs) = CN at *
    generalize (lensC ot (maps nx rs) rs).getD j [] = V at *
    generalize lensC ot (maps nx rs) rs = LC at *
    generalize maps nx rs = MP at *
    clear hcb hx ho hr hC hl hmlen hllen hgr' hv' hlo hj hwf hls hok hot
    go_enter Tryz.func40, Tryz.ntmps40
    go_upto_region 3 with fail
    refine wp_region_N (fun W => W.cell? ⟨cp, 2, none⟩ = some (.slice N S cn) ∧ W.cell? ⟨gp, 0, none⟩ = some (.slice G n c) ∧ W.cell? ⟨cp, 1, none⟩ = some (.int .i64 (q : Int))) [23] (by kernel_rfl) ?_
    have c0 : Below w.heap.size w w.drew := (Below.refl _ _).drew
    have hS0 := HS.out _ c0
    generalize hwd : w.drew = wd at *
    clear hwd
    refine wpAnyN_take (i := 0) (v := ?_) rfl (by kernel_rfl) (fun _ _ _ h => h) (by rfl) (fun W hW => ?_) hS0 ?_
    rotate_left
    · obtain ⟨z0, z1, z2⟩ := hW
      go_simp
      try with_reducible rfl
    try simp only [List.getElem_toArray, List.getElem_cons_zero, List.getElem_cons_succ, Act.put, List.setIfInBounds_toArray, List.set_cons_zero, List.set_cons_succ]
    refine wpAnyN_take (i := 1) (v := ?_) rfl (by kernel_rfl) (fun _ _ _ h => h) (by rfl) (fun W hW => ?_) hS0 ?_
    rotate_left
    · obtain ⟨z0, z1, z2⟩ := hW
      go_simp
      try with_reducible rfl
    try simp only [List.getElem_toArray, List.getElem_cons_zero, List.getElem_cons_succ, Act.put, List.setIfInBounds_toArray, List.set_cons_zero, List.set_cons_succ]
    refine wpAnyN_take (i := 2) (v := ?_) rfl (by kernel_rfl) (fun _ _ _ h => h) (by rfl) (fun W hW => ?_) hS0 ?_
    rotate_left
    · obtain ⟨z0, z1, z2⟩ := hW
      go_simp
      try with_reducible rfl
    try simp only [List.getElem_toArray, List.getElem_cons_zero, List.getElem_cons_succ, Act.put, List.setIfInBounds_toArray, List.set_cons_zero, List.set_cons_succ]
    refine wpAnyN_take (i := 3) (v := ?_) rfl (by kernel_rfl) (fun _ _ _ h => h) (by rfl) (fun W hW => ?_) hS0 ?_
    rotate_left
    · obtain ⟨z0, z1, z2⟩ := hW
      go_simp
      try with_reducible rfl
    try simp only [List.getElem_toArray, List.getElem_cons_zero, List.getElem_cons_succ, Act.put, List.setIfInBounds_toArray, List.set_cons_zero, List.set_cons_succ]
    refine wpAnyN_take (i := 4) (v := ?_) rfl (by kernel_rfl) (fun _ _ _ h => h) (by rfl) (fun W hW => ?_) hS0 ?_
    rotate_left
    · obtain ⟨z0, z1, z2⟩ := hW
      go_simp
      try with_reducible rfl
    try simp only [List.getElem_toArray, List.getElem_cons_zero, List.getElem_cons_succ, Act.put, List.setIfInBounds_toArray, List.set_cons_zero, List.set_cons_succ]
    refine wpAnyN_take (i := 5) (v := ?_) rfl (by kernel_rfl) (fun _ _ _ h => h) (by rfl) (fun W hW => ?_) hS0 ?_
    rotate_left
    · obtain ⟨z0, z1, z2⟩ := hW
      go_simp
      try with_reducible rfl
    try simp only [List.getElem_toArray, List.getElem_cons_zero, List.getElem_cons_succ, Act.put, List.setIfInBounds_toArray, List.set_cons_zero, List.set_cons_succ]
    refine wpAnyN_take (i := 6) (v := ?_) rfl (by kernel_rfl) (fun _ _ _ h => h) (by rfl) (fun W hW => ?_) hS0 ?_
    rotate_left
    · obtain ⟨z0, z1, z2⟩ := hW
      go_simp
      try with_reducible rfl
    try simp only [List.getElem_toArray, List.getElem_cons_zero, List.getElem_cons_succ, Act.put, List.setIfInBounds_toArray, List.set_cons_zero, List.set_cons_succ]
    refine wpAnyN_take (i := 9) (v := ?_) rfl (by kernel_rfl) (fun _ _ _ h => h) (by rfl) (fun W hW => ?_) hS0 ?_
    rotate_left
    · obtain ⟨z0, z1, z2⟩ := hW
      go_simp
      try with_reducible rfl
    try simp only [List.getElem_toArray, List.getElem_cons_zero, List.getElem_cons_succ, Act.put, List.setIfInBounds_toArray, List.set_cons_zero, List.set_cons_succ]
    refine wpAnyN_take (i := 10) (v := ?_) rfl (by kernel_rfl) (fun _ _ _ h => h) (by rfl) (fun W hW => ?_) hS0 ?_
    rotate_left
    · obtain ⟨z0, z1, z2⟩ := hW
      go_simp
      try with_reducible rfl
    try simp only [List.getElem_toArray, List.getElem_cons_zero, List.getElem_cons_succ, Act.put, List.setIfInBounds_toArray, List.set_cons_zero, List.set_cons_succ]
    refine wpAnyN_take (i := 11) (v := ?_) rfl (by kernel_rfl) (fun _ _ _ h => h) (by rfl) (fun W hW => ?_) hS0 ?_
    rotate_left
    · obtain ⟨z0, z1, z2⟩ := hW
      go_simp
      try with_reducible rfl
    try simp only [List.getElem_toArray, List.getElem_cons_zero, List.getElem_cons_succ, Act.put, List.setIfInBounds_toArray, List.set_cons_zero, List.set_cons_succ]
    refine wpAnyN_take (i := 12) (v := ?_) rfl (by kernel_rfl) (fun _ _ _ h => h) (by rfl) (fun W hW => ?_) hS0 ?_
    rotate_left
    · obtain ⟨z0, z1, z2⟩ := hW
      go_simp
      try with_reducible rfl
    try simp only [List.getElem_toArray, List.getElem_cons_zero, List.getElem_cons_succ, Act.put, List.setIfInBounds_toArray, List.set_cons_zero, List.set_cons_succ]
    refine wpAnyN_take (i := 13) (v := ?_) rfl (by kernel_rfl) (fun _ _ _ h => h) (by rfl) (fun W hW => ?_) hS0 ?_
    rotate_left
    · obtain ⟨z0, z1, z2⟩ := hW
      go_simp
      try with_reducible rfl
    try simp only [List.getElem_toArray, List.getElem_cons_zero, List.getElem_cons_succ, Act.put, List.setIfInBounds_toArray, List.set_cons_zero, List.set_cons_succ]
    refine wpAnyN_take (i := 14) (v := ?_) rfl (by kernel_rfl) (fun _ _ _ h => h) (by rfl) (fun W hW => ?_) hS0 ?_
    rotate_left
    · obtain ⟨z0, z1, z2⟩ := hW
      go_simp
      try with_reducible rfl
    try simp only [List.getElem_toArray, List.getElem_cons_zero, List.getElem_cons_succ, Act.put, List.setIfInBounds_toArray, List.set_cons_zero, List.set_cons_succ]
    refine wpAnyN_take (i := 17) (v := ?_) rfl (by kernel_rfl) (fun _ _ _ h => h) (by rfl) (fun W hW => ?_) hS0 ?_
    rotate_left
    · obtain ⟨z0, z1, z2⟩ := hW
      go_simp
      try with_reducible rfl
    try simp only [List.getElem_toArray, List.getElem_cons_zero, List.getElem_cons_succ, Act.put, List.setIfInBounds_toArray, List.set_cons_zero, List.set_cons_succ]
    refine wpAnyN_take (i := 18) (v := ?_) rfl (by kernel_rfl) (fun _ _ _ h => h) (by rfl) (fun W hW => ?_) hS0 ?_
    rotate_left
    · obtain ⟨z0, z1, z2⟩ := hW
      go_simp
      try with_reducible rfl
    try simp only [List.getElem_toArray, List.getElem_cons_zero, List.getElem_cons_succ, Act.put, List.setIfInBounds_toArray, List.set_cons_zero, List.set_cons_succ]
    refine wpAnyN_take (i := 19) (v := ?_) rfl (by kernel_rfl) (fun _ _ _ h => h) (by rfl) (fun W hW => ?_) hS0 ?_
    rotate_left
    · obtain ⟨z0, z1, z2⟩ := hW
      go_simp
      try with_reducible rfl
    try simp only [List.getElem_toArray, List.getElem_cons_zero, List.getElem_cons_succ, Act.put, List.setIfInBounds_toArray, List.set_cons_zero, List.set_cons_succ]
    refine wpAnyN_take (i := 20) (v := ?_) rfl (by kernel_rfl) (fun _ _ _ h => h) (by rfl) (fun W hW => ?_) hS0 ?_
    rotate_left
    · obtain ⟨z0, z1, z2⟩ := hW
      go_simp
      try with_reducible rfl
    try simp only [List.getElem_toArray, List.getElem_cons_zero, List.getElem_cons_succ, Act.put, List.setIfInBounds_toArray, List.set_cons_zero, List.set_cons_succ]
    clear hS0
    refine wpAnyN_next (i := 7) rfl (by kernel_rfl) (fun Kc hK => ?_)
    go_simp
    go_wp2_with (go_at_call 41; refine (SM.out wd c0).mono ?_; rintro e w1 ⟨M, cm, mh, rfl, tabM, hb1⟩; rw [HM1.out] at tabM ⊢)
    have c1 : Below w.heap.size w w1 := c0.trans (hb1.mono c0.size)
    have RM := Lib.hid (tabM.rd (fun _ => rfl))
    refine hK.out _ _ (fun _ => HS.out _ c1) ?_
    clear hK Kc
    try simp only [List.getElem_toArray, List.getElem_cons_zero, List.getElem_cons_succ, Act.put, List.setIfInBounds_toArray, List.set_cons_zero, List.set_cons_succ]
    refine wpAnyN_next (i := 8) rfl (by kernel_rfl) (fun Kc hK => ?_)
    go_simp
    go_wp2_with (go_at_call 73; refine (SC.out w1 c1 M cm mh RM.out).mono ?_; rintro e w2 ⟨L, cl, lh, rfl, tabL, hb2⟩; rw [HL1.out] at tabL ⊢)
    have c2 : Below w.heap.size w w2 := c1.trans (hb2.mono c1.size)
    obtain ⟨p, g, cq, rfl, hpl, _, ep, hgl, eg, _⟩ := tabL.cell2 (.int .i64) (fun _ => rfl) hgr.out hv.out
    rw [hrl.out] at ep
    clear tabL hb2 RM
    refine hK.out _ _ (fun _ => HS.out _ c2) ?_
    clear hK Kc
    try simp only [List.getElem_toArray, List.getElem_cons_zero, List.getElem_cons_succ, Act.put, List.setIfInBounds_toArray, List.set_cons_zero, List.set_cons_succ]
    refine wpAnyN_next (i := 15) rfl (by kernel_rfl) (fun Kc hK => ?_)
    go_simp
    refine hK.out _ _ (fun _ => HS.out _ c2) ?_
    clear hK Kc
    try simp only [List.getElem_toArray, List.getElem_cons_zero, List.getElem_cons_succ, Act.put, List.setIfInBounds_toArray, List.set_cons_zero, List.set_cons_succ]
    refine wpAnyN_next (i := 16) rfl (by kernel_rfl) (fun Kc hK => ?_)
    go_simp
    refine hK.out _ _ (fun _ => HS.out _ c2) ?_
    clear hK Kc
    try simp only [List.getElem_toArray, List.getElem_cons_zero, List.getElem_cons_succ, Act.put, List.setIfInBounds_toArray, List.set_cons_zero, List.set_cons_succ]
    refine wpAnyN_next (i := 21) rfl (by kernel_rfl) (fun Kc hK => ?_)
    go_simp
    refine hK.out _ _ (fun _ => HS.out _ c2) ?_
    clear hK Kc
    try simp only [List.getElem_toArray, List.getElem_cons_zero, List.getElem_cons_succ, Act.put, List.setIfInBounds_toArray, List.set_cons_zero, List.set_cons_succ]
    refine wpAnyN_next (i := 22) rfl (by kernel_rfl) (fun Kc hK => ?_)
    go_simp
    refine hK.out _ _ (fun _ => HS.out _ c2) ?_
    clear hK Kc
    try simp only [List.getElem_toArray, List.getElem_cons_zero, List.getElem_cons_succ, Act.put, List.setIfInBounds_toArray, List.set_cons_zero, List.set_cons_succ]
    refine wpAnyN_next (i := 23) rfl (by kernel_rfl) (fun Kc hK => ?_)
    go_simp
    refine hK.out _ _ (fun h => absurd h (by decide)) ?_
    clear hK Kc
    try simp only [List.getElem_toArray, List.getElem_cons_zero, List.getElem_cons_succ, Act.put, List.setIfInBounds_toArray, List.set_cons_zero, List.set_cons_succ]
    refine wpAnyN_done (by kernel_rfl) ?_ _
    go_wp2_with fail
    go_ret
    exact ⟨by rw [HC.out]; rfl, c2⟩
/-- whether a coder is valid -/
def otRow (r : List ByteArray) : Bool := decide (r.length = 4) && r.all fun t => okW t && decide (t.size ≤ 6)
def cdB (S q : Int) (nx : List (List Int)) (ot : List (List ByteArray)) : Bool := mchB S q nx && decide ((ot.length : Int) = S) && ot.all otRow
theorem cd_ok {S q : Int} {nx : List (List Int)} {ot : List (List ByteArray)} (h : cdB S q nx ot = true) : NxOk S.toNat nx ∧ OtOk S.toNat ot ∧ 1 ≤ S ∧ S ≤ 24 ∧ 0 ≤ q ∧ q < S := by
  simp only [cdB, Bool.and_eq_true, decide_eq_true_eq, List.all_eq_true] at h
  obtain ⟨⟨h1, h2⟩, h3⟩ := h
  obtain ⟨hn, s1, s2, q1, q2⟩ := nx_ok h1
  refine ⟨hn, ⟨by omega, fun r hr => ?_⟩, s1, s2, q1, q2⟩
  have := h3 r hr
  simp only [otRow, Bool.and_eq_true, decide_eq_true_eq, List.all_eq_true] at this
  exact ⟨this.1, fun t ht => this.2 t ht⟩
end Go.Proofs.YtmdmgndhapdmgaaGreat
