/-
  LevelGrammar in the reference.
-/
import Derived.Test.YtikhjoianbndhaaLvT
import Derived.Test.YtikhjoianbndhaaLvP
namespace Go.Proofs.Ytikhjoianbndhaa
open Go.RowKit

/-- what holds after some rules, in the reference -/
structure LrJ (rs : List Fac) (k : Nat) (t : LvS × Bool) (pl : List Int) : Prop where
  i : RfI t
  ln : pl.length = k
  ix : t.2 = false → ∀ (j : Nat) (p : Int), pl[j]? = some p → Idx t.1 p
  st : (t.2 = false ∧ t.1.rs.length ≤ 400 ∧ LvJ rs k (t.1, pl)) ∨ (lvAll rs = none ∧ (t.2 = true ∨ 400 < t.1.rs.length))
def rfOne (s : LvS) (pl : List Int) (r : Fac) : (LvS × Bool) × Int :=
  if r.l.size = 0 then rfLevel 800 s (pl.getD r.a.toNat 0) (pl.getD r.b.toNat 0) else rfMake (s, false) r
theorem LrJ.first (rs : List Fac) : LrJ rs 0 (lv0.1, false) [] :=
  ⟨⟨(LvJ.first rs).i, by simp [lv0], fun e => by cases e⟩, rfl, fun _ j p h => by simp at h, .inl ⟨rfl, by simp [lv0], LvJ.first rs⟩⟩
theorem LrJ.at_ {rs : List Fac} {k : Nat} {t : LvS × Bool} {pl : List Int} (h : LrJ rs k t pl) (hf : t.2 = false) {j : Int} (h0 : 0 ≤ j) (h1 : j < k) : Idx t.1 (pl.getD j.toNat 0) := by
  have hj : j.toNat < pl.length := by rw [h.ln]; omega
  rw [List.getD_eq_getElem?_getD, List.getElem?_eq_getElem hj]
  exact h.ix hf j.toNat _ (List.getElem?_eq_getElem hj)
theorem LrJ.do_ {rs : List Fac} {k : Nat} {t : LvS × Bool} {pl : List Int} {r : Fac} (h : LrJ rs k t pl) (hf : t.2 = false) (hwf : WF rs) (hr : rs[k]? = some r) :
    RfO t (rfOne t.1 pl r).1 (rfOne t.1 pl r).2 ∧ ∃ m g, lvOne (t.1, pl) r = (m.1, pl ++ [m.2]) ∧ LvO t.1 m g ∧ Rel m (rfOne t.1 pl r) := by
  obtain ⟨s, f⟩ := t
  simp only at hf; subst hf
  have hl := h.i.len
  unfold rfOne lvOne
  rcases hwf k r hr with ⟨h0, ha0, ha1, hb0, hb1⟩ | ⟨c, hc, hl2, ha, hb⟩
  · rw [if_pos h0, if_pos h0]
    have ia := h.at_ rfl ha0 (by omega)
    have ib := h.at_ rfl hb0 (by omega)
    have hf : pl.getD r.a.toNat 0 + pl.getD r.b.toNat 0 ≤ (800 : Nat) := by have := ia.2; have := ib.2; simp only at *; omega
    obtain ⟨o, q⟩ := rfLevel_do 800 h.i.i hl ia ib hf
    exact ⟨o, lvLevel 800 s (pl.getD r.a.toNat 0) (pl.getD r.b.toNat 0), _, rfl, lvLevel_do 800 h.i.i ia ib hf, q⟩
  · have hz : ¬ r.l.size = 0 := by rw [hl2]; show ¬ (1 : Nat) = 0; omega
    rw [if_neg hz, if_neg hz]
    have ok : RuleOk s r := .inr ⟨c, hc, hl2, ha, hb⟩
    exact ⟨rfMake_do h.i (fun _ => ok), lvRule s r, _, rfl, lvRule_do h.i.i ok, Rel.make hl r⟩
theorem LrJ.one {rs : List Fac} {k : Nat} {t : LvS × Bool} {pl : List Int} {r : Fac} (h : LrJ rs k t pl) (hf : t.2 = false) (hwf : WF rs) (hr : rs[k]? = some r) : LrJ rs (k + 1) (rfOne t.1 pl r).1 (pl ++ [(rfOne t.1 pl r).2]) := by
  obtain ⟨o, m, g, he, hm, q⟩ := h.do_ hf hwf hr
  generalize rfOne t.1 pl r = u at *
  refine ⟨o.i, by simp [h.ln], fun e j p hp => ?_, ?_⟩
  · by_cases hj : j < pl.length
    · rw [List.getElem?_append_left hj] at hp; exact o.idx (h.ix hf j p hp)
    · rw [List.getElem?_append_right (by omega)] at hp
      have : j - pl.length = 0 := by have := (List.getElem?_eq_some_iff.1 hp).1; simp at this; omega
      rw [this] at hp; simp at hp; subst hp
      exact o.ix e
  · rcases h.st with ⟨_, h4, J⟩ | ⟨hn, h4⟩
    · have hlen : (lvOne (t.1, pl) r).1.rs.length = m.1.rs.length := by rw [he]
      rcases q with ⟨e, hl⟩ | ⟨e, hl⟩
      · by_cases hm4 : m.1.rs.length ≤ 400
        · have J2 := J.one hr (by rw [hlen]; exact hm4) he hm
          rw [he] at J2
          rw [e]
          exact .inl ⟨rfl, hm4, J2⟩
        · rw [e]
          exact .inr ⟨J.full hr (by rw [hlen]; omega), .inr (by simp only; omega)⟩
      · exact .inr ⟨J.full hr (by rw [hlen]; omega), .inl e⟩
    · refine .inr ⟨hn, .inr ?_⟩
      rcases h4 with h4 | h4
      · rw [hf] at h4; cases h4
      · have := o.grow; omega
theorem LrJ.end_ {rs : List Fac} {k : Nat} {t : LvS × Bool} {pl : List Int} (h : LrJ rs k t pl) (hk : rs.length ≤ k) (hf : t.2 = false) (h4 : t.1.rs.length ≤ 400) : lvAll rs = some (t.1, pl) := by
  rcases h.st with ⟨_, _, J⟩ | ⟨_, q | q⟩
  · exact J.all hk
  · rw [hf] at q; cases q
  · omega
theorem LrJ.none_ {rs : List Fac} {k : Nat} {t : LvS × Bool} {pl : List Int} (h : LrJ rs k t pl) (hf : t.2 = true ∨ 400 < t.1.rs.length) : lvAll rs = none := by
  rcases h.st with ⟨h1, h2, _⟩ | ⟨q, _⟩
  · rcases hf with e | e
    · rw [e] at h1; cases h1
    · omega
  · exact q
/-- 'LevelGrammar' under way -/
structure LsW (w W : World) (X : Nat) (A0 : Option Addr) (n0 c0 : Nat) (A : Option Addr) (n c : Nat) (B : Option Addr) (d : Nat) (t : LvS × Bool) (V : Option Addr) (k cv : Nat) (pl : List Int) : Prop where
  p : LsP w W X A n c B d t
  v : W.ownsRow w.heap.size 2 1 (.slice V k cv) k (pl.flatMap intE)
  q : Blk W w.heap.size 24 #[.slice A0 n0 c0]
  o : Blk W (w.heap.size + 1) 24 #[.slice none 0 0]
  ne : ∀ y, (Value.slice V k cv).ownBlock = some y → some y ≠ (Value.slice B n d).ownBlock
  hX : w.heap.size + 1 < X
section
variable {w W W' : World} {X : Nat} {A0 : Option Addr} {n0 c0 : Nat} {A : Option Addr} {n c : Nat} {B : Option Addr} {d : Nat} {t : LvS × Bool} {V : Option Addr} {k cv : Nat} {pl : List Int}
theorem LsW.next (h : LsW w W X A0 n0 c0 A n c B d t V k cv pl) (hb : Below W.heap.size W W') : LsW w W' X A0 n0 c0 A n c B d t V k cv pl := ⟨h.p.next hb, own_next h.v hb, h.q.next hb, h.o.next hb, h.ne, h.hX⟩
theorem LsW.alloc (h : LsW w W X A0 n0 c0 A n c B d t V k cv pl) (o : Obj) : LsW w (W.alloc o) X A0 n0 c0 A n c B d t V k cv pl := h.next ((Below.refl _ _).alloc (Nat.le_refl _) _)
theorem LsW.call {A' : Option Addr} {n' c' : Nat} {B' : Option Addr} {d' : Nat} {t' : LvS × Bool} (h : LsW w W X A0 n0 c0 A n c B d t V k cv pl) (hp : LsP w W' X A' n' c' B' d' t') (hf : LvF W W' X X (.slice A n c) (.slice A' n' c') (.slice B n d) (.slice B' n' d')) :
    LsW w W' X A0 n0 c0 A' n' c' B' d' t' V k cv pl := by
  refine ⟨hp, own_keep h.v fun y hy => ?_, hf.blk h.q (by have := h.hX; omega) (by have := h.hX; omega) (own_blk_ne h.p.g.q h.q (by decide)) (own_blk_ne h.p.g.k h.q (by decide)),
    hf.blk h.o (by have := h.hX; omega) (by have := h.hX; omega) (own_blk_ne h.p.g.q h.o (by decide)) (own_blk_ne h.p.g.k h.o (by decide)), fun y hy => ?_, h.hX⟩
  · have hx : y ≠ X := by intro e; subst e; exact own_blk_ne h.v h.p.g.x h.p.g.t2 hy.symm
    refine hf.kept y (h.v.lt y hy).2 hx hx ?_ (h.ne y hy)
    · intro e
      rcases own_ne h.v h.p.g.q (by decide) with q | q
      · rw [hy] at q; cases q
      · exact q (hy.trans e)
  · rcases hf.row' with q | q
    · rw [q]; exact h.ne y hy
    · intro e; have := q y e.symm; have := (h.v.lt y hy).2; omega
theorem LsW.push {V8 : Option Addr} {k8 c8 : Nat} {pl' : List Int} (h : LsW w W X A0 n0 c0 A n c B d t V k cv pl) (hq : W'.ownsRow w.heap.size 2 1 (.slice V8 k8 c8) k8 (pl'.flatMap intE)) (hg : W.grownBy W' (Value.slice V k cv).ownBlock)
    (hat : (Value.slice V8 k8 c8).ownBlock = (Value.slice V k cv).ownBlock ∨ (Value.slice V8 k8 c8).ownBlock = some W.heap.size) : LsW w W' X A0 n0 c0 A n c B d t V8 k8 c8 pl' := by
  have hk : (Value.slice B n d).ownBlock = none ∨ (Value.slice B n d).ownBlock ≠ (Value.slice V k cv).ownBlock := by
    cases hy : (Value.slice V k cv).ownBlock with
    | none =>
      cases hz : (Value.slice B n d).ownBlock with
      | none => exact .inl rfl
      | some z => exact .inr (by simp)
    | some y => exact .inr fun e => h.ne y hy (e.symm)
  refine ⟨⟨⟨h.p.g.q.kept hg (own_ne h.p.g.q h.v (by decide)), h.p.g.k.kept hg hk, h.p.g.x.grown hg (own_blk_ne h.v h.p.g.x h.p.g.t2), h.p.g.e.grown hg h.p.g.e.size (own_ge h.v), h.p.g.hx, h.p.g.t1, h.p.g.t2⟩, h.p.hr, h.p.hd⟩, hq,
    h.q.grown hg (own_blk_ne h.v h.q (by decide)), h.o.grown hg (own_blk_ne h.v h.o (by decide)), fun y hy e => ?_, h.hX⟩
  rcases hat with q | q
  · rw [q] at hy; exact h.ne y hy e
  · rw [q] at hy; injection hy with hy; have := (h.p.g.k.lt y e.symm).2; omega
end
set_option maxHeartbeats 8000000 in
set_option maxRecDepth 100000 in
theorem specLev_any (A : Option Addr) (n c : Nat) (rs : List Fac) (w : World) (hn : n ≤ 1048576) (hr : Rd w w.heap.size A n 3 Fac.cells rs) (hok : ∀ f ∈ rs, f.l.size ≤ maxLen) :
    Calls Try.prog 17 #[.agg #[.slice A n c]] w (RetGC w (levF rs) (levC rs)) := by
  have hB0 := Lib.hid (Blk.new w 24 #[.slice A n c])
  have HR := Lib.hid hr; clear hr
  have HO := Lib.hid hok; clear hok
  have HT := Lib.hid (show levF rs = (if (gOk rs).isSome then lvT rs else []) from rfl); have HC := Lib.hid (show levC rs = (if (gOk rs).isSome then lvE rs else 1) from rfl)
  generalize levF rs = T at *
  generalize levC rs = C at *
  go_enter Try.func17, Try.ntmps17
  go_wp2_with fail
  refine namedC fun w3 H3 => ?_
  have hb3 : Below w.heap.size w w3 := by rw [H3.out]; (repeat first | exact Below.refl _ _ | assumption | refine Below.drew ?_ | refine Below.alloc ?_ (by first | exact Nat.le_refl _ | (simp; done) | omega | (simp; omega)) _ | refine Below.setCell ?_ (by first | exact Nat.le_refl _ | (simp; done) | omega | (simp; omega)) _)
  have BG := Lib.hid (show Blk w3 w.heap.size 24 #[.slice A n c] by rw [H3.out]; exact hB0.out.alloc _)
  have BC := Lib.hid (show Blk w3 (w.heap.size + 1) 24 #[.slice none 0 0] by rw [H3.out]; simpa using Blk.new (w.alloc (.cells #[.slice A n c] 24)) 24 #[.slice none 0 0])
  clear H3
  rcases hg : (gOk rs).isSome with _ | _
  · have Hg := Lib.hid hg
    have eT := HT.out; have eC := HC.out
    rw [hg] at eT eC
    obtain rfl : T = [] := eT
    obtain rfl : C = 1 := eC
    clear hg HT HC
    refine (l02Ok_any w.heap.size A n c rs w3 BG.out.lt (BG.out.cell 0) (by omega) (HR.out.next hb3) HO.out false Hg.out).mono ?_
    rintro e1 w4 ⟨rfl, hb4⟩
    have b4 := hb3.trans (hb4.mono hb3.size)
    have BC4 := BC.out.next hb4
    have d4 := BC4.cell 0
    have f4 := BC4.frozen
    have l4 := BC4.lt
    have B5 := BC4.set_ 0 (.slice none 0 0)
    have x5 : (w4.setCell ⟨w.heap.size + 1, 0, none⟩ (.slice none 0 0)).cell? ⟨w.heap.size + 1, 0, none⟩ = some (.slice none 0 0) := by rw [B5.cell 0]; rfl
    have b5 := b4.setCell (p := ⟨w.heap.size + 1, 0, none⟩) (by simp) (.slice none 0 0)
    clear B5 BC4
    go_wp2_with fail
    refine bodyPost_ret (v := .tuple #[.agg #[.slice none 0 0], .int .i64 1]) (by simp [results, Try.results17, go_sem, x5]) rfl ⟨none, 0, rfl, World.ownsRow_nil _ _ _ _, b5⟩
  · have Hg := Lib.hid hg
    have eT := HT.out; have eC := HC.out
    rw [hg] at eT eC
    obtain rfl : T = lvT rs := eT
    obtain rfl : C = lvE rs := eC
    clear hg HT HC
    obtain ⟨ls, hls⟩ := Option.isSome_iff_exists.1 Hg.out
    have hwf := Lib.hid (wf_of (gOk_lens hls).1)
    have hn4 : n ≤ 400 := by have := (gOk_lens hls).2.1; have := HR.out.len; omega
    clear hls
    refine (l02Ok_any w.heap.size A n c rs w3 BG.out.lt (BG.out.cell 0) (by omega) (HR.out.next hb3) HO.out true Hg.out).mono ?_
    rintro e1 w4 ⟨rfl, hb4⟩
    have b4 := hb3.trans (hb4.mono hb3.size)
    have BC4 := Lib.hid (BC.out.next hb4)
    have BG4 := Lib.hid (BG.out.next hb4)
    have g4 := BG4.out.cell 0
    have k4 := BG4.out.lt
    by_cases hn0 : n = 0
    · have hz : rs = [] := List.eq_nil_of_length_eq_zero (by rw [HR.out.len]; exact hn0)
      have eT := Lib.hid (show lvT rs = [] by rw [hz]; rfl)
      have eC := Lib.hid (show lvE rs = 0 by rw [hz]; rfl)
      have nz : (n : Int) = 0 := by omega
      have d4 := BC4.out.cell 0
      have f4 := BC4.out.frozen
      have l4 := BC4.out.lt
      have B5 := BC4.out.set_ 0 (.slice none 0 0)
      have x5 : (w4.setCell ⟨w.heap.size + 1, 0, none⟩ (.slice none 0 0)).cell? ⟨w.heap.size + 1, 0, none⟩ = some (.slice none 0 0) := by rw [B5.cell 0]; rfl
      have b5 := b4.setCell (p := ⟨w.heap.size + 1, 0, none⟩) (by simp) (.slice none 0 0)
      clear B5 hz
      go_wp2_with fail
      refine bodyPost_ret (v := .tuple #[.agg #[.slice none 0 0], .int .i64 0]) (by simp [results, Try.results17, go_sem, x5]) rfl ?_
      rw [eT.out, eC.out]
      exact ⟨none, 0, rfl, World.ownsRow_nil _ _ _ _, b5⟩
    · have nz : ¬ (n : Int) = 0 := by omega
      have nzb : ((n : Int) == 0) = false := by simpa using nz
      go_wp2_with fail
      refine named fun w5 H5 => ?_
      have P5 := Lib.hid (show LsW w w5 w4.heap.size A n c none 0 0 none 0 (lv0.1, false) (some ⟨w4.heap.size + 1, 0, none⟩) 0 0 [] by
        rw [H5.out]
        refine ⟨⟨⟨World.ownsRow_nil _ _ _ _, World.ownsRow_nil _ _ _ _, ?_, b4.trans (Below.mono (by (repeat first | exact Below.refl _ _ | assumption | refine Below.drew ?_ | refine Below.alloc ?_ (by first | exact Nat.le_refl _ | (simp; done) | omega | (simp; omega)) _ | refine Below.setCell ?_ (by first | exact Nat.le_refl _ | (simp; done) | omega | (simp; omega)) _)) b4.size), b4.size, by decide, by decide⟩, rfl, rfl⟩, ?_, ?_, ?_, fun y hy => by simp [Value.ownBlock], ?_⟩
        · have h := (Blk.new w4 74 #[.slice none 0 0, .slice none 0 0, .bool false]).alloc (.cells #[] 2)
          simpa using h
        · have h := World.ownsRow_made (base := w.heap.size) (e := 2) (size := 1) (w4.alloc (.cells #[.slice none 0 0, .slice none 0 0, .bool false] 74)) #[] 0 (by have := b4.size; simp; omega) (by unfold maxLen; omega) rfl
          simpa [lv0] using h
        · exact (BG4.out.alloc _).alloc _
        · exact (BC4.out.alloc _).alloc _
        · have := BC4.out.lt; omega)
      clear H5 hb3 hb4 b4 BG BC BC4 BG4 g4 k4 hB0
      generalize hX : w4.heap.size = X at *
      have HX := Lib.hid hX
      clear hX
      go_loopw [5, 6] (fun v_ i_ w' => ∃ (k : Nat) (V : Option Addr) (cv : Nat) (A1 : Option Addr) (n1 c1 : Nat) (B1 : Option Addr) (d1 : Nat) (s0 : LvS × Bool) (pl : List Int), v_ = .slice V k cv ∧ i_ = .int .i64 k ∧ k ≤ n ∧ Hid (LsW w w' X A n c A1 n1 c1 B1 d1 s0 V k cv pl) ∧ Hid (LrJ rs k s0 pl)) (fun _ i_ _ => n - (intOf i_).toNat)
      case atStart => exact ⟨0, _, 0, none, 0, 0, none, 0, _, [], rfl, rfl, by omega, P5, Lib.hid (LrJ.first rs)⟩
      case round =>
        obtain ⟨k, V, cv, A1, n1, c1, B1, d1, s0, pl, rfl, rfl, hk, P1, J⟩ := hrel
        clear P5
        have hn1 : n1 ≤ 401 := by have h1 := J.out.i.len; rw [P1.out.p.hr] at h1; exact h1
        have hnl := Lib.hid HR.out.len
        have g0 := P1.out.q.cell 0
        have gl := P1.out.q.lt
        have x2 := P1.out.p.g.x.cell 2
        have xl := P1.out.p.g.x.lt
        by_cases hgo : k < n ∧ s0.2 = false
        · obtain ⟨hlt, hf⟩ := hgo
          obtain ⟨s, f0⟩ := s0
          simp only at hf
          subst hf
          obtain ⟨b0, o0, x, rfl, hB, gx, e0, e1, e2⟩ := (HR.out.below P1.out.p.g.e).fac hlt
          have hBr : b0 < wr.heap.size := by have := P1.out.p.g.e.size; omega
          have Gx := Lib.hid gx
          have i0 : (0 : Int) ≤ (k : Int) := by omega
          have i1 : (k : Int) < (n : Int) := by omega
          clear gx
          have kmx : k + 1 ≤ maxLen := by unfold maxLen; omega
          have zk8 : (k + 1) * 8 ≤ 140737488355328 := by omega
          rcases hwf.out k x Gx.out with ⟨h0, ha0, ha1, hb0, hb1⟩ | ⟨cc, hcc, hxl, hxa, hxb⟩
          · have e0' := size0 h0
            go_wp2_with fail
            refine named fun w1 H1 => ?_
            have hb1 : Below wr.heap.size wr w1 := by rw [H1.out]; (repeat first | exact Below.refl _ _ | assumption | refine Below.drew ?_ | refine Below.alloc ?_ (by first | exact Nat.le_refl _ | (simp; done) | omega | (simp; omega)) _ | refine Below.setCell ?_ (by first | exact Nat.le_refl _ | (simp; done) | omega | (simp; omega)) _)
            have BX2 := Lib.hid (show Blk w1 wr.heap.size 44 #[.string x.l, .int .i64 x.a, .int .i64 x.b] by
              rw [H1.out]
              exact Blk.new _ _ _)
            have P2 := Lib.hid (P1.out.next hb1)
            have zb' : wr.heap.size < w1.heap.size := BX2.out.lt
            clear hb1 H1 P1 e0 e1 e2 g0 gl x2 xl
            have ia := J.out.at_ rfl ha0 ha1
            have ib := J.out.at_ rfl hb0 hb1
            have He := Lib.hid (show rfOne s pl x = rfLevel 800 s (pl.getD x.a.toNat 0) (pl.getD x.b.toNat 0) by unfold rfOne; rw [if_pos h0])
            obtain ⟨gv, cpv, hvv, hgv0, hgv1⟩ := P2.out.v.form (by omega)
            obtain rfl : V = some ⟨gv, 0, none⟩ := by injection hvv
            have va := own_at (sz := 1) (enc := intE) (fun _ _ => rfl) P2.out.v J.out.ln 0 x.a.toNat (by omega) 0 (by omega)
            have vb := own_at (sz := 1) (enc := intE) (fun _ _ => rfl) P2.out.v J.out.ln 0 x.b.toNat (by omega) 0 (by omega)
            rw [Nat.mul_one, Nat.add_zero] at va vb
            obtain ⟨a, hae⟩ : ∃ a : Nat, x.a = a := ⟨x.a.toNat, by omega⟩
            obtain ⟨b, hbe⟩ : ∃ b : Nat, x.b = b := ⟨x.b.toNat, by omega⟩
            rw [hae] at va ia He ha1
            rw [hbe] at vb ib He hb1
            rw [Int.toNat_natCast] at va ia vb ib
            rw [Int.toNat_natCast, Int.toNat_natCast] at He
            obtain ⟨l, hle⟩ : ∃ l : Nat, pl.getD a 0 = l := ⟨(pl.getD a 0).toNat, by have := ia.1; omega⟩
            obtain ⟨r, hre⟩ : ∃ r : Nat, pl.getD b 0 = r := ⟨(pl.getD b 0).toNat, by have := ib.1; omega⟩
            rw [hle] at ia He
            rw [hre] at ib He
            have va' : w1.cell? ⟨gv, a, none⟩ = some (.int .i64 (l : Int)) := by rw [← hle]; exact va
            have vb' : w1.cell? ⟨gv, b, none⟩ = some (.int .i64 (r : Int)) := by rw [← hre]; exact vb
            have hl4 := J.out.i.len
            have hlr : (l : Nat) + r ≤ 800 := by have := ia.2; have := ib.2; simp only at *; omega
            have CALL := Lib.hid (fun W4 (h4 : LsP w W4 X A1 n1 c1 B1 d1 (s, false)) => rfLevel_any w X 800 l r s A1 n1 c1 B1 d1 W4 J.out.i.i hl4 ia ib hlr h4)
            generalize rfLevel 800 s (l : Int) (r : Int) = t at *
            have Hae := Lib.hid hae; have Hbe := Lib.hid hbe
            have d0 := BX2.out.cell 0
            have d1_ : w1.cell? ⟨wr.heap.size, 1, none⟩ = some (.int .i64 (a : Int)) := by rw [← hae]; exact BX2.out.cell 1
            have d2_ : w1.cell? ⟨wr.heap.size, 2, none⟩ = some (.int .i64 (b : Int)) := by rw [← hbe]; exact BX2.out.cell 2
            have a0 : (0 : Int) ≤ (a : Int) := by omega
            have b0' : (0 : Int) ≤ (b : Int) := by omega
            have a1 : (a : Int) < (k : Int) := ha1
            have b1' : (b : Int) < (k : Int) := hb1
            clear hvv va vb hae hbe hle hre ia ib h0 ha0 hb0 ha1 hb1 hl4 hlr e0'
            refine wp_region_N (fun _ => True) [] (by kernel_rfl) ?_
            refine wpAnyN_take (i := 0) (v := ?_) rfl (by kernel_rfl) (fun _ _ _ h => h) (by rfl) (fun W hW => ?_) trivial ?_
            rotate_left
            · go_simp
              try with_reducible rfl
            try simp only [List.getElem_toArray, List.getElem_cons_zero, List.getElem_cons_succ, Act.put, List.setIfInBounds_toArray, List.set_cons_zero, List.set_cons_succ]
            refine wpAnyN_T _ (wpAny_of_N (S := fun W' => W'.cell? ⟨gv, a, none⟩ = some (.int .i64 (l : Int)) ∧ W'.cell? ⟨gv, b, none⟩ = some (.int .i64 (r : Int)) ∧ W'.cell? ⟨wr.heap.size, 0, none⟩ = some (.string x.l) ∧ W'.cell? ⟨wr.heap.size, 1, none⟩ = some (.int .i64 a) ∧ W'.cell? ⟨wr.heap.size, 2, none⟩ = some (.int .i64 b)) (N := [12, 13, 14, 15]) _ _ _ _ ?_)
            have P3 := Lib.hid (P2.out.next (Below.refl _ _).drew)
            have hS0 : w1.drew.cell? ⟨gv, a, none⟩ = some (.int .i64 (l : Int)) ∧ w1.drew.cell? ⟨gv, b, none⟩ = some (.int .i64 (r : Int)) ∧ w1.drew.cell? ⟨wr.heap.size, 0, none⟩ = some (.string x.l) ∧ w1.drew.cell? ⟨wr.heap.size, 1, none⟩ = some (.int .i64 a) ∧ w1.drew.cell? ⟨wr.heap.size, 2, none⟩ = some (.int .i64 b) := ⟨va', vb', d0, d1_, d2_⟩
            generalize w1.drew = wd at *
            clear va' vb' d0 d1_ d2_ P2 BX2
            refine wpAnyN_take (i := 1) (v := ?_) rfl (by kernel_rfl) (fun _ _ _ h => h) (by rfl) (fun W hW => ?_) hS0 ?_
            rotate_left
            · obtain ⟨z0, z1, z2, z3, z4⟩ := hW
              go_simp
              try with_reducible rfl
            try simp only [List.getElem_toArray, List.getElem_cons_zero, List.getElem_cons_succ, Act.put, List.setIfInBounds_toArray, List.set_cons_zero, List.set_cons_succ]
            refine wpAnyN_take (i := 2) (v := ?_) rfl (by kernel_rfl) (fun _ _ _ h => h) (by rfl) (fun W hW => ?_) hS0 ?_
            rotate_left
            · obtain ⟨z0, z1, z2, z3, z4⟩ := hW
              go_simp
              try with_reducible rfl
            try simp only [List.getElem_toArray, List.getElem_cons_zero, List.getElem_cons_succ, Act.put, List.setIfInBounds_toArray, List.set_cons_zero, List.set_cons_succ]
            refine wpAnyN_take (i := 3) (v := ?_) rfl (by kernel_rfl) (fun _ _ _ h => h) (by rfl) (fun W hW => ?_) hS0 ?_
            rotate_left
            · obtain ⟨z0, z1, z2, z3, z4⟩ := hW
              go_simp
              try with_reducible rfl
            try simp only [List.getElem_toArray, List.getElem_cons_zero, List.getElem_cons_succ, Act.put, List.setIfInBounds_toArray, List.set_cons_zero, List.set_cons_succ]
            refine wpAnyN_take (i := 4) (v := ?_) rfl (by kernel_rfl) (fun _ _ _ h => h) (by rfl) (fun W hW => ?_) hS0 ?_
            rotate_left
            · obtain ⟨z0, z1, z2, z3, z4⟩ := hW
              go_simp
              try with_reducible rfl
            try simp only [List.getElem_toArray, List.getElem_cons_zero, List.getElem_cons_succ, Act.put, List.setIfInBounds_toArray, List.set_cons_zero, List.set_cons_succ]
            refine wpAnyN_take (i := 5) (v := ?_) rfl (by kernel_rfl) (fun _ _ _ h => h) (by rfl) (fun W hW => ?_) hS0 ?_
            rotate_left
            · obtain ⟨z0, z1, z2, z3, z4⟩ := hW
              go_simp
              try with_reducible rfl
            try simp only [List.getElem_toArray, List.getElem_cons_zero, List.getElem_cons_succ, Act.put, List.setIfInBounds_toArray, List.set_cons_zero, List.set_cons_succ]
            refine wpAnyN_take (i := 6) (v := ?_) rfl (by kernel_rfl) (fun _ _ _ h => h) (by rfl) (fun W hW => ?_) hS0 ?_
            rotate_left
            · obtain ⟨z0, z1, z2, z3, z4⟩ := hW
              go_simp
              try with_reducible rfl
            try simp only [List.getElem_toArray, List.getElem_cons_zero, List.getElem_cons_succ, Act.put, List.setIfInBounds_toArray, List.set_cons_zero, List.set_cons_succ]
            refine wpAnyN_take (i := 7) (v := ?_) rfl (by kernel_rfl) (fun _ _ _ h => h) (by rfl) (fun W hW => ?_) hS0 ?_
            rotate_left
            · obtain ⟨z0, z1, z2, z3, z4⟩ := hW
              go_simp
              try with_reducible rfl
            try simp only [List.getElem_toArray, List.getElem_cons_zero, List.getElem_cons_succ, Act.put, List.setIfInBounds_toArray, List.set_cons_zero, List.set_cons_succ]
            refine wpAnyN_take (i := 8) (v := ?_) rfl (by kernel_rfl) (fun _ _ _ h => h) (by rfl) (fun W hW => ?_) hS0 ?_
            rotate_left
            · obtain ⟨z0, z1, z2, z3, z4⟩ := hW
              go_simp
              try with_reducible rfl
            try simp only [List.getElem_toArray, List.getElem_cons_zero, List.getElem_cons_succ, Act.put, List.setIfInBounds_toArray, List.set_cons_zero, List.set_cons_succ]
            refine wpAnyN_take (i := 9) (v := ?_) rfl (by kernel_rfl) (fun _ _ _ h => h) (by rfl) (fun W hW => ?_) hS0 ?_
            rotate_left
            · obtain ⟨z0, z1, z2, z3, z4⟩ := hW
              go_simp
              try with_reducible rfl
            try simp only [List.getElem_toArray, List.getElem_cons_zero, List.getElem_cons_succ, Act.put, List.setIfInBounds_toArray, List.set_cons_zero, List.set_cons_succ]
            refine wpAnyN_take (i := 10) (v := ?_) rfl (by kernel_rfl) (fun _ _ _ h => h) (by rfl) (fun W hW => ?_) hS0 ?_
            rotate_left
            · obtain ⟨z0, z1, z2, z3, z4⟩ := hW
              go_simp
              try with_reducible rfl
            try simp only [List.getElem_toArray, List.getElem_cons_zero, List.getElem_cons_succ, Act.put, List.setIfInBounds_toArray, List.set_cons_zero, List.set_cons_succ]
            refine wpAnyN_take (i := 11) (v := ?_) rfl (by kernel_rfl) (fun _ _ _ h => h) (by rfl) (fun W hW => ?_) hS0 ?_
            rotate_left
            · obtain ⟨z0, z1, z2, z3, z4⟩ := hW
              go_simp
              try with_reducible rfl
            try simp only [List.getElem_toArray, List.getElem_cons_zero, List.getElem_cons_succ, Act.put, List.setIfInBounds_toArray, List.set_cons_zero, List.set_cons_succ]
            clear hS0
            refine wpAnyN_next (i := 12) rfl (by kernel_rfl) (fun K hK => ?_)
            go_simp
            go_wp2_with (go_at_call 45; refine (CALL.out _ P3.out.p).mono ?_; rintro e w4 ⟨rfl, A2, n2, c2, B2, d2, p4, f4⟩)
            have P4 := Lib.hid (P3.out.call p4 f4)
            have P5 := Lib.hid (P4.out.alloc (.cells #[.int .i64 t.2] 2))
            clear p4 f4
            refine hK.out _ _ (fun h => absurd h (by decide)) ?_
            clear hK K
            try simp only [List.getElem_toArray, List.getElem_cons_zero, List.getElem_cons_succ, Act.put, List.setIfInBounds_toArray, List.set_cons_zero, List.set_cons_succ]
            refine wpAnyN_next (i := 13) rfl (by kernel_rfl) (fun K hK => ?_)
            go_simp
            refine hK.out _ _ (fun h => absurd h (by decide)) ?_
            clear hK K
            try simp only [List.getElem_toArray, List.getElem_cons_zero, List.getElem_cons_succ, Act.put, List.setIfInBounds_toArray, List.set_cons_zero, List.set_cons_succ]
            refine wpAnyN_next (i := 14) rfl (by kernel_rfl) (fun K hK => ?_)
            refine step_pushL (by rfl) _ _ _ (by rfl) w.heap.size 2 1 8 elem_int intE (some ⟨gv, 0, none⟩) k cv pl (by rfl) P5.out.v _ t.2 #[.int .i64 t.2] 2 (0, 0) (by rfl) (heap_alloc_new _ _) rfl rfl (by simp [intE, Value.oneCell']) (by omega) zk8 kmx P5.out.p.g.e.size ?_
            intro A9 c9 w9 own9 hg9 hat9
            have P9 := Lib.hid (P5.out.push own9 hg9 hat9)
            refine hK.out _ _ (fun h => absurd h (by decide)) ?_
            clear hK K
            try simp only [List.getElem_toArray, List.getElem_cons_zero, List.getElem_cons_succ, Act.put, List.setIfInBounds_toArray, List.set_cons_zero, List.set_cons_succ]
            refine wpAnyN_next (i := 15) rfl (by kernel_rfl) (fun K hK => ?_)
            go_simp
            refine hK.out _ _ (fun h => absurd h (by decide)) ?_
            clear hK K
            try simp only [List.getElem_toArray, List.getElem_cons_zero, List.getElem_cons_succ, Act.put, List.setIfInBounds_toArray, List.set_cons_zero, List.set_cons_succ]
            refine wpAnyN_done (by kernel_rfl) ?_ _
            go_wp2_with fail
            have J2 : Hid (LrJ rs (k + 1) t.1 (pl ++ [t.2])) := Lib.hid (by have h := J.out.one rfl hwf.out Gx.out; rw [show rfOne (s, false).1 pl x = t from He.out] at h; exact h)
            clear J
            go_roundw
            case rel => exact ⟨k + 1, A9, c9, A2, n2, c2, B2, d2, t.1, pl ++ [t.2], rfl, by go_num, by omega, P9, J2⟩
            case measure => simp [intOf]; omega
          · have hl1 : x.l.size ≠ 0 := by rw [hxl]; show (1 : Nat) ≠ 0; omega
            have e1' := size1 hl1
            have e2' := size1' hl1
            have He := Lib.hid (show rfOne s pl x = rfMake (s, false) x by unfold rfOne; rw [if_neg (by rw [hxl]; show ¬ (1 : Nat) = 0; omega)])
            have CALL := Lib.hid (fun W4 (h4 : LsP w W4 X A1 n1 c1 B1 d1 (s, false)) => rfMake_any w X x (s, false) A1 n1 c1 B1 d1 W4 J.out.i (fun _ => .inr ⟨cc, hcc, hxl, hxa, hxb⟩) h4)
            generalize rfMake (s, false) x = t at *
            have Y0 := Lib.hid (Blk.new wr 44 #[.string x.l, .int .i64 x.a, .int .i64 x.b])
            obtain ⟨d0, d1_, d2_⟩ := Y0.out.three
            have dl := Y0.out.lt
            clear hxl hxa hxb hcc hl1
            go_wp2_with fail
            refine namedC fun w1 H1 => ?_
            have hb1 : Below wr.heap.size wr w1 := by rw [H1.out]; (repeat first | exact Below.refl _ _ | assumption | refine Below.drew ?_ | refine Below.alloc ?_ (by first | exact Nat.le_refl _ | (simp; done) | omega | (simp; omega)) _ | refine Below.setCell ?_ (by first | exact Nat.le_refl _ | (simp; done) | omega | (simp; omega)) _)
            have P2 := Lib.hid (P1.out.next hb1)
            clear hb1 H1 P1 e0 e1 e2 g0 gl x2 xl d0 d1_ d2_ dl
            refine (CALL.out w1 P2.out.p).mono ?_
            rintro e w4 ⟨rfl, A2, n2, c2, B2, d2, p4, f4⟩
            have P4 := Lib.hid (P2.out.call p4 f4)
            have P5 := Lib.hid (P4.out.alloc (.cells #[.int .i64 t.2] 2))
            clear p4 f4
            go_wp2_with
              (at_builtin
               refine wpList_push (w0 := w) rfl _ _ _ rfl w.heap.size 2 1 8 elem_int intE V k cv pl rfl P5.out.v w4.heap.size t.2 #[.int .i64 t.2] 2 (0, 0) rfl (heap_alloc_new _ _) rfl rfl (by simp [intE, Value.oneCell']) (by omega) (by omega) (by unfold maxLen; omega) rfl P5.out.p.g.e ?_
               intro A9 c9 w9 own9 hg9 hat9 hb9
               have P9 := Lib.hid (P5.out.push own9 hg9 hat9))
            have J2 : Hid (LrJ rs (k + 1) t.1 (pl ++ [t.2])) := Lib.hid (by have h := J.out.one rfl hwf.out Gx.out; rw [show rfOne (s, false).1 pl x = t from He.out] at h; exact h)
            clear J
            go_roundw
            case rel => exact ⟨k + 1, A9, c9, A2, n2, c2, B2, d2, t.1, pl ++ [t.2], rfl, by go_num, by omega, P9, J2⟩
            case measure => simp [intOf]; omega
        · have o0_ := P1.out.o.cell 0
          have of_ := P1.out.o.frozen
          have ol_ := P1.out.o.lt
          have x0 := P1.out.p.g.x.cell 0
          by_cases hbad : s0.2 = true ∨ 400 < n1
          · have hnone := Lib.hid (J.out.none_ (by rw [P1.out.p.hr]; exact hbad))
            have eT := Lib.hid (show lvT rs = [] by unfold lvT; rw [hnone.out])
            have eC := Lib.hid (show lvE rs = 3 by unfold lvE; rw [hnone.out]; rfl)
            have B5 := P1.out.o.set_ 0 (.slice none 0 0)
            have x5 : (wr.setCell ⟨w.heap.size + 1, 0, none⟩ (.slice none 0 0)).cell? ⟨w.heap.size + 1, 0, none⟩ = some (.slice none 0 0) := by rw [B5.cell 0]; rfl
            have b5 := P1.out.p.g.e.setCell (p := ⟨w.heap.size + 1, 0, none⟩) (by simp) (.slice none 0 0)
            have Hb := Lib.hid hbad
            have Hgo := Lib.hid hgo
            clear B5 hbad hgo
            cases hf : s0.2 with
            | true =>
              rw [hf] at x2
              clear Hb Hgo
              by_cases hlt : (k : Int) < (n : Int)
              all_goals
                go_wp2_with fail
                refine bodyPost_ret (v := .tuple #[.agg #[.slice none 0 0], .int .i64 3]) (by simp [results, Try.results17, go_sem, x5]) rfl ?_
                rw [eT.out, eC.out]
                exact ⟨none, 0, rfl, World.ownsRow_nil _ _ _ _, b5⟩
            | false =>
              rw [hf] at x2
              have hlt : ¬ (k : Int) < (n : Int) := by
                intro h
                exact Hgo.out ⟨by omega, hf⟩
              have h4 : (400 : Int) < (n1 : Int) := by
                rcases Hb.out with h | h
                · rw [hf] at h; cases h
                · omega
              clear Hb Hgo hf
              go_wp2_with fail
              refine bodyPost_ret (v := .tuple #[.agg #[.slice none 0 0], .int .i64 3]) (by simp [results, Try.results17, go_sem, x5]) rfl ?_
              rw [eT.out, eC.out]
              exact ⟨none, 0, rfl, World.ownsRow_nil _ _ _ _, b5⟩
          · have hf : s0.2 = false := by
              cases q : s0.2 with
              | false => rfl
              | true => exact absurd (.inl q) hbad
            have h4 : n1 ≤ 400 := by omega
            have hkn : k = n := by
              have : ¬ k < n := fun h => hgo ⟨h, hf⟩
              omega
            have hall := Lib.hid (J.out.end_ (show rs.length ≤ k by have := HR.out.len; omega) hf (by rw [P1.out.p.hr]; exact h4))
            have hix := J.out.ix hf
            rw [hf] at x2
            have h4' : ¬ (400 : Int) < (n1 : Int) := by omega
            have hlt : ¬ (k : Int) < (n : Int) := by omega
            have eC := Lib.hid (show lvE rs = 0 by unfold lvE; rw [hall.out]; rfl)
            have hsl : Idx s0.1 (lastI pl) := by
              unfold lastI
              have hj : pl.length - 1 < pl.length := by rw [J.out.ln]; omega
              rw [List.getD_eq_getElem?_getD, List.getElem?_eq_getElem hj]
              exact hix _ _ (List.getElem?_eq_getElem hj)
            have Hsl := Lib.hid hsl
            have eT0 := Lib.hid (show lvT rs = trimL (s0.1.rs.take ((lastI pl).toNat + 1)) by
              unfold lvT
              rw [hall.out]
              simp only
              rw [if_neg (by intro e; have := J.out.ln; rw [e] at this; simp at this; omega), show (lastI pl + 1).toNat = (lastI pl).toNat + 1 by have := Hsl.out.1; omega])
            have hl0 : 0 ≤ lastI pl := hsl.1
            have hl1 : lastI pl < (n1 : Int) := by rw [← P1.out.p.hr]; exact hsl.2
            have hwt := Lib.hid (wf_take J.out.i.i.wf ((lastI pl).toNat + 1))
            have RO := Lib.hid (Rd.of_own (fun x _ => fac_len x) P1.out.p.hr P1.out.p.g.q)
            obtain ⟨gv, cpv, hvv, hgv0, hgv1⟩ := P1.out.v.form (by omega)
            obtain rfl : V = some ⟨gv, 0, none⟩ := by injection hvv
            have va := own_at (sz := 1) (enc := intE) (fun _ _ => rfl) P1.out.v J.out.ln 0 (k - 1) (by omega) 0 (by omega)
            rw [Nat.mul_one, Nat.add_zero] at va
            have va' : wr.cell? ⟨gv, k - 1, none⟩ = some (.int .i64 (lastI pl)) := by unfold lastI; rw [J.out.ln]; exact va
            obtain ⟨m, hm⟩ : ∃ m, k - 1 = m := ⟨_, rfl⟩
            rw [hm] at va'
            have um : IntKind.i64.wrap ((k : Int) - 1) = (m : Int) := by rw [IntWalk.i64_in _ (by omega)]; omega
            have m0 : (0 : Int) ≤ (m : Int) := by omega
            have m1 : (m : Int) < (k : Int) := by omega
            have hgvl : gv < wr.heap.size := by have := (P1.out.v.lt gv rfl).2; exact this
            clear hm va hvv hix hsl
            generalize lastI pl = sl at *
            have u1 : IntKind.i64.wrap (sl + 1) = sl + 1 := IntWalk.i64_in _ (by omega)
            have j0 : (0 : Int) ≤ sl + 1 := by omega
            have hc1 : n1 ≤ c1 := by
              have h2 := P1.out.p.g.q.2
              rcases h2 with ⟨hnil, hz⟩ | ⟨g2, cap2, cur2, hv2, _, _, h3, _⟩
              · omega
              · injection hv2 with _ _ h4; omega
            have j1 : sl + 1 ≤ (c1 : Int) := by omega
            have jn : (sl + 1).toNat = sl.toNat + 1 := by omega
            have RT := Lib.hid (Rd.takeL RO.out (k := sl.toNat + 1) (by omega))
            have TC := Lib.hid (fun W (h : Below wr.heap.size wr W) (hB : Blk W wr.heap.size 24 #[.slice A1 (sl.toNat + 1) c1]) => l02Trim_any wr.heap.size A1 (sl.toNat + 1) c1 (s0.1.rs.take (sl.toNat + 1)) W hB.lt (hB.cell 0) (by omega) (RT.out.next h) hwt.out)
            unfold RetG at TC
            generalize trimL (s0.1.rs.take (sl.toNat + 1)) = T at *
            obtain ⟨L, hL⟩ : ∃ L, T.length = L := ⟨_, rfl⟩
            rw [hL] at TC
            have HL := Lib.hid hL
            clear hkn hL hl0 hl1 J Hsl hwt RO RT hall hbad hgo hf
            have PD := Lib.hid (P1.out.next (Below.refl _ _).drew)
            have y0 := PD.out.p.g.x.cell 0
            have yl := PD.out.p.g.x.lt
            have va2 : wr.drew.cell? ⟨gv, m, none⟩ = some (.int .i64 sl) := va'
            go_wp2_with fail
            go_region_law
              (go_simp
               go_wp2_with (go_at_call 46; refine (TC.out _ (by (repeat first | exact Below.refl _ _ | assumption | refine Below.drew ?_ | refine Below.alloc ?_ (by first | exact Nat.le_refl _ | (simp; done) | omega | (simp; omega)) _ | refine Below.setCell ?_ (by first | exact Nat.le_refl _ | (simp; done) | omega | (simp; omega)) _)) (Blk.new _ _ _).drew).mono ?_; rintro e w6' ⟨A5, c5, rfl, own5, hb6'⟩)
               have b6 : Below wr.heap.size wr w6' := Below.trans (by (repeat first | exact Below.refl _ _ | assumption | refine Below.drew ?_ | refine Below.alloc ?_ (by first | exact Nat.le_refl _ | (simp; done) | omega | (simp; omega)) _ | refine Below.setCell ?_ (by first | exact Nat.le_refl _ | (simp; done) | omega | (simp; omega)) _)) (hb6'.mono (by simp))
               have P7 := Lib.hid (P1.out.next b6)
               have O6 := Lib.hid (show w6'.ownsRow w.heap.size 44 3 (.slice A5 L c5) L (T.flatMap Fac.cells) from own5.mono (by have := P1.out.p.g.e.size; simp; omega))
               have o7 := P7.out.o.cell 0
               have f7 := P7.out.o.frozen
               have l7 := P7.out.o.lt
               clear own5)
            all_goals
              have B5 := P7.out.o.set_ 0 (.slice A5 L c5)
              have x5 : (w6'.setCell ⟨w.heap.size + 1, 0, none⟩ (.slice A5 L c5)).cell? ⟨w.heap.size + 1, 0, none⟩ = some (.slice A5 L c5) := by rw [B5.cell 0]; rfl
              have b5' := P7.out.p.g.e.setCell (p := ⟨w.heap.size + 1, 0, none⟩) (by simp) (.slice A5 L c5)
              have O8 := Lib.hid (own_kept' (i := 0) O6.out P7.out.o (by decide) (.slice A5 L c5))
              clear B5
              go_wp2_with fail
              exact bodyPost_ret (v := .tuple #[.agg #[.slice A5 L c5], .int .i64 0]) (by simp [results, Try.results17, go_sem, x5]) rfl ⟨A5, c5, by rw [eT0.out, eC.out]; simp [HL.out], by rw [eT0.out]; simpa [HL.out] using O8.out, b5'⟩
end Go.Proofs.Ytikhjoianbndhaa
