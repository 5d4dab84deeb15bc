/-
  Texts of this claim, merged: P6G Huge P6H LtC LtI Refs FoldV Spare Emb EmbI EmbS EmbF SpM WdT.
-/
import Derived.Test.YtecnkmndmnefdaaP5
import Derived.Deep.RegionHeld3


/-
  The grammars that a law draws.
-/
namespace Go.Proofs.Ytecnkmndmnefdaa
open Go.RowKit

/-- a grammar that is drawn, in memory of its own -/
def GrNew (w : World) (most : Int) (e : Ending) (w' : World) : Prop :=
  ∃ A c rs, e = .returned (.agg #[.slice A rs.length c]) ∧ DgOk rs most ∧ w'.ownsRow w.heap.size 69 3 (.slice A rs.length c) rs.length (rs.flatMap Fac.cells) ∧ Below w.heap.size w w'
theorem DgOk.gok {rs : List Fac} {most : Int} (h : DgOk rs most) : (gOk rs).isSome = true := small_ok h.wf (by have := h.few; omega)
set_option maxHeartbeats 1000000 in
theorem p6Grammar_any (A : Option Addr) (n c : Nat) (bs : List UInt8) (w : World) (hn : n ≤ 4096) (hr : Rd w w.heap.size A n 1 byteE bs) :
    Calls Try.prog 22 #[.slice A n c] w (GrNew w 8) := by
  have HR := Lib.hid hr; clear hr
  go_enter Try.func22, Try.ntmps22
  go_wp2_with fail
  refine namedC fun w0 H0 => ?_
  have hb0 : Below w.heap.size w w0 := by rw [H0.out]; (repeat first | exact Below.refl _ _ | assumption | refine Below.drew ?_ | refine Below.alloc ?_ (by first | exact Nat.le_refl _ | (simp; done) | omega | (simp; omega)) _ | refine Below.setCell ?_ (by first | exact Nat.le_refl _ | (simp; done) | omega | (simp; omega)) _)
  have B0 := Lib.hid (show Blk w0 w.heap.size 26 #[.slice none 0 0] by rw [H0.out]; exact Blk.new _ _ _)
  clear H0
  refine (l00From_any A n c bs w0 hn (HR.out.next hb0)).mono ?_
  rintro e w1 ⟨g, rfl, hg, s1, hb1⟩
  have b1 := hb0.trans (hb1.mono hb0.size)
  have B1 := Lib.hid (B0.out.next hb1)
  have hlt := B0.out.lt
  go_wp2_with fail
  refine (l02Drawn_any g 0 8 w1 s1 (by omega) (by omega) (by omega)).mono ?_
  rintro e w2 ⟨A2, c2, rs, rfl, ok, own2, s2, g2⟩
  have B2 := Lib.hid (B1.out.grown g2 (by intro e; injection e with e; omega))
  have b2 := Lib.hid (b1.grown g2 b1.size (fun k e => by injection e; omega))
  have O2 := Lib.hid (own_kept' (i := 0) (own2.mono b1.size) B2.out (by decide) (.slice A2 rs.length c2))
  have Ok := Lib.hid ok
  have r0 := B2.out.cell 0
  have rf := B2.out.frozen
  have rl := B2.out.lt
  have x5 := (B2.out.set_ 0 (.slice A2 rs.length c2)).cell 0
  have b3 := Lib.hid (b2.out.setCell (p := ⟨w.heap.size, 0, none⟩) (Nat.le_refl _) (.slice A2 rs.length c2))
  clear own2 s2 g2 ok
  go_wp2_with fail
  refine bodyPost_ret (v := .agg #[.slice A2 rs.length c2]) (by simp [results, Try.results22, go_sem]; rw [x5]; rfl) rfl ?_
  exact ⟨A2, c2, rs, rfl, Ok.out, O2.out, b3.out⟩
end Go.Proofs.Ytecnkmndmnefdaa


/-
  The draw of a grammar of a long word: it is valid, and its word is not too long.
-/
namespace Go.Proofs.Ytecnkmndmnefdaa
open Go.RowKit

/-- a slice value holds a grammar that is right -/
def GrAt (w : World) (B : Nat) (V : Value) : Prop := ∃ A c rs, V = .slice A rs.length c ∧ GrIn w B A c rs
theorem GrIn.next {w w' : World} {B : Nat} {A : Option Addr} {c : Nat} {rs : List Fac} (h : GrIn w B A c rs) (hb : Below w.heap.size w w') : GrIn w' B A c rs := ⟨h.wf, h.pos, h.ok, own_next h.own hb⟩
theorem GrIn.mono {w : World} {B B' : Nat} {A : Option Addr} {c : Nat} {rs : List Fac} (h : GrIn w B A c rs) (hB : B' ≤ B) : GrIn w B' A c rs := ⟨h.wf, h.pos, h.ok, h.own.mono hB⟩
theorem GrAt.mono {w : World} {B B' : Nat} {V : Value} (h : GrAt w B V) (hB : B' ≤ B) : GrAt w B' V := by obtain ⟨A, c, rs, e, h⟩ := h; exact ⟨A, c, rs, e, h.mono hB⟩
theorem GrAt.next {w w' : World} {B : Nat} {V : Value} (h : GrAt w B V) (hb : Below w.heap.size w w') : GrAt w' B V := by obtain ⟨A, c, rs, e, h⟩ := h; exact ⟨A, c, rs, e, h.next hb⟩
theorem GrAt.alloc {w : World} {B : Nat} {V : Value} (h : GrAt w B V) (o : Obj) : GrAt (w.alloc o) B V := h.next ((Below.refl _ _).alloc (Nat.le_refl _) _)
theorem GrAt.keep {w : World} {B g : Nat} {V : Value} {cs : Array Value} (h : GrAt w B V) (hB : Blk w g 26 cs) (u : Value) : GrAt (w.setCell ⟨g, 0, none⟩ u) B V := by
  obtain ⟨A, c, rs, e, h⟩ := h
  exact ⟨A, c, rs, e, h.wf, h.pos, h.ok, own_kept' (i := 0) h.own hB (by decide) u⟩
theorem GrAt.draw {w w' : World} {B g : Nat} {V : Value} (h : GrAt w B V) (hg : w.grownBy w' (some g)) (hlt : g < B) : GrAt w' B V := by
  obtain ⟨A, c, rs, e, h⟩ := h
  exact ⟨A, c, rs, e, h.wf, h.pos, h.ok, own_kept h.own hg hlt⟩
theorem GrCode.cut {w w' : World} {e : Ending} (h : GrCode w e w') : ∃ (A2 : Option Addr) (n2 c2 : Nat) (k : Int), e = .returned (.tuple #[.agg #[.slice A2 n2 c2], .int .i64 k]) ∧ Below w.heap.size w w' ∧ (k = 0 → GrAt w' w.heap.size (.slice A2 n2 c2)) := by
  rcases h with ⟨A, c, rs, rfl, h, hb⟩ | ⟨rfl, hb⟩
  · exact ⟨_, _, _, 0, rfl, hb, fun _ => ⟨A, c, rs, rfl, h⟩⟩
  · exact ⟨_, _, _, 3, rfl, hb, fun h => absurd h (by decide)⟩
/-- the draw of a long word under way -/
structure HuW (w W : World) (g K X : Nat) (A : Option Addr) (n c : Nat) (rs : List Fac) : Prop where
  q : W.ownsRow w.heap.size 69 3 (.slice A n c) n (rs.flatMap Fac.cells)
  r : Blk W w.heap.size 26 #[.slice none 0 0]
  x : Blk W X 26 #[.slice A n c]
  s : Src W g K
  e : w.grownBy W (some g)
  hg : g < w.heap.size
  hx : w.heap.size < X
section
variable {w W W' : World} {g K X : Nat} {A : Option Addr} {n c : Nat} {rs : List Fac}
theorem HuW.next (h : HuW w W g K X A n c rs) (hb : Below W.heap.size W W') : HuW w W' g K X A n c rs := ⟨own_next h.q hb, h.r.next hb, h.x.next hb, h.s.next hb, gb_next h.e hb, h.hg, h.hx⟩
theorem HuW.alloc (h : HuW w W g K X A n c rs) (o : Obj) : HuW w (W.alloc o) g K X A n c rs := h.next ((Below.refl _ _).alloc (Nat.le_refl _) _)
theorem HuW.drew (h : HuW w W g K X A n c rs) : HuW w W.drew g K X A n c rs := h.next (Below.refl _ _).drew
theorem HuW.pick {K' : Nat} (h : HuW w W g K X A n c rs) (hs : Src W' g K') (hg : W.grownBy W' (some g)) : HuW w W' g K' X A n c rs :=
  ⟨own_kept h.q hg h.hg, h.r.grown hg (by intro e; injection e with e; have := h.hg; omega), h.x.grown hg (by intro e; injection e with e; have := h.hg; have := h.hx; omega), hs, gb_trans h.e hg, h.hg, h.hx⟩
theorem HuW.far {b : Nat} {cs : Array Value} (h : HuW w W g K X A n c rs) (V : Value) (hB : Blk W b 26 cs) (hb : X < b) : HuW w (W.setCell ⟨b, 0, none⟩ V) g K X A n c rs := by
  have hg := gb_set W b 0 V
  have h1 := h.hg; have h2 := h.hx
  exact ⟨own_kept' (i := 0) h.q hB (by decide) V, h.r.grown hg (by intro e; injection e with e; omega), h.x.grown hg (by intro e; injection e with e; omega), h.s.grown hg (fun k e => by injection e with e; omega), gb_weak h.e hg (by omega), h1, h2⟩
end
theorem mul_pick {a b : Int} (a0 : 0 ≤ a) (a1 : a < 1000000) (b0 : 0 ≤ b) (b1 : b < 100000) : 0 ≤ a * b ∧ a * b ≤ 100000000000 :=
  ⟨Int.mul_nonneg a0 b0, Int.le_trans (Int.mul_le_mul (show a ≤ 1000000 by omega) (show b ≤ 100000 by omega) b0 (by decide)) (by decide)⟩
/-- what the draw of a long word leaves -/
def HuDraw (w : World) (g K : Nat) (e : Ending) (w' : World) : Prop :=
  ∃ A c rs, e = .returned (.agg #[.slice A rs.length c]) ∧ GrIn w' w.heap.size A c rs ∧ Src w' g K ∧ w.grownBy w' (some g)
theorem join_cut {w w' : World} {J : List Fac} {e : Ending} (h : RetGC w (limF J) (limC J) e w') (hw : WF J) (hp : 0 < J.length) :
    ∃ (A2 : Option Addr) (n2 c2 : Nat) (k : Int), e = .returned (.tuple #[.agg #[.slice A2 n2 c2], .int .i64 k]) ∧ Below w.heap.size w w' ∧ (k = 0 → GrAt w' w.heap.size (.slice A2 n2 c2)) := by
  obtain ⟨A, c, rfl, own, hb⟩ := h
  refine ⟨A, _, c, _, rfl, hb, fun hk => ?_⟩
  unfold limC at hk
  split at hk
  · rename_i h1
    have e : limF J = J := by unfold limF; rw [if_pos h1]
    rw [e] at own ⊢
    exact ⟨A, c, J, rfl, hw, hp, h1, own⟩
  · cases hk
theorem HuW.tell {w W : World} {g K K' X : Nat} {A A2 : Option Addr} {n c n2 c2 : Nat} {rs : List Fac} (h : HuW w W g K X A n c rs) (hG : GrAt W w.heap.size (.slice A2 n2 c2)) (hK : K ≤ K') :
    HuDraw w g K' (.returned (.agg #[.slice A2 n2 c2])) (W.setCell ⟨w.heap.size, 0, none⟩ (.slice A2 n2 c2)) := by
  have hg := gb_set W w.heap.size 0 (.slice A2 n2 c2)
  have h1 := h.hg
  obtain ⟨A', c', rs', hv, hi⟩ := hG
  injection hv with h1 h2 h3
  subst h1; subst h2; subst h3
  exact ⟨A2, c2, rs', rfl, ⟨hi.wf, hi.pos, hi.ok, own_kept' (i := 0) hi.own h.r (by decide) _⟩, (h.s.grown hg (fun k e => by injection e with e; omega)).mono hK, gb_weak h.e hg (Nat.le_refl _)⟩
theorem HuW.x8 {w W : World} {g K X : Nat} {A : Option Addr} {n c : Nat} {rs : List Fac} (h : HuW w W g K X A n c rs) (v : Value) : (W.setCell ⟨w.heap.size, 0, none⟩ v).cell? ⟨w.heap.size, 0, none⟩ = some v := by rw [(h.r.set_ 0 v).cell 0]; rfl
set_option maxHeartbeats 4000000 in
set_option maxRecDepth 100000 in
theorem l02Huge_any (g K : Nat) (w : World) (h : Src w g K) (hK : K ≤ 1000000) :
    Calls Try.prog 30 #[.pointer (some ⟨g, 0, none⟩)] w (HuDraw w g (K + 3000)) := by
  have HG := h.lt
  have H := Lib.hid h; clear h
  go_enter Try.func30, Try.ntmps30
  go_wp2_with fail
  refine namedC fun w1 H1 => ?_
  have hb1 : Below w.heap.size w w1 := by rw [H1.out]; (repeat first | exact Below.refl _ _ | assumption | refine Below.drew ?_ | refine Below.alloc ?_ (by first | exact Nat.le_refl _ | (simp; done) | omega | (simp; omega)) _ | refine Below.setCell ?_ (by first | exact Nat.le_refl _ | (simp; done) | omega | (simp; omega)) _)
  have BR := Lib.hid (show Blk w1 w.heap.size 26 #[.slice none 0 0] by rw [H1.out]; exact Blk.new _ _ _)
  clear H1
  refine (l02Drawn_any g K 1000 w1 (H.out.next hb1) (by omega) (by omega) (by omega)).mono ?_
  rintro e w2 ⟨A, c, rs, rfl, ok, own2, s2, g2⟩
  have HOk := Lib.hid ok
  obtain ⟨n, hn⟩ : ∃ n, rs.length = n := ⟨_, rfl⟩
  have hn0 : 0 < n := by have := ok.pos; omega
  have hn1 : n ≤ 400 := by have := ok.few; omega
  have HLn := Lib.hid hn
  rw [hn] at own2 ⊢
  have O2 := Lib.hid (own2.mono hb1.size)
  have BR2 := Lib.hid (BR.out.grown g2 (by intro e; injection e with e; omega))
  have E2 := Lib.hid (gb_trans (gb_below (r := some g) hb1) g2)
  have S2 := Lib.hid s2
  have hX : w.heap.size < w2.heap.size := BR2.out.lt
  clear ok own2 s2 g2 hn BR hb1 H
  go_upto_region 2 with fail
  refine named fun w3 H3 => ?_
  have P := Lib.hid (show HuW w w3 g (K + 1000) w2.heap.size A n c rs by
    rw [H3.out]
    exact ⟨O2.out.alloc _, BR2.out.alloc _, Blk.new _ _ _, S2.out.next ((Below.refl _ _).alloc (Nat.le_refl _) _), gb_next E2.out ((Below.refl _ _).alloc (Nat.le_refl _) _), HG, hX⟩)
  clear H3 O2 BR2 E2 S2
  generalize hK1 : K + 1000 = K1 at *
  go_cut [4, 5] from 6 (fun p_ k_ wx => ∃ (a4 : Nat) (A2 : Option Addr) (n2 c2 : Nat) (k : Int), p_ = .pointer (some ⟨a4, 0, none⟩) ∧ k_ = .int .i64 k ∧ Hid (HuW w wx g (K1 + 2 + 2) w2.heap.size A n c rs) ∧ Hid (Blk wx a4 26 #[.slice A2 n2 c2]) ∧ Hid (k = 0 → GrAt wx w.heap.size (.slice A2 n2 c2)) ∧ Hid (w2.heap.size < a4))
  case first =>
    refine wp_region_N (fun W => W.cell? ⟨w2.heap.size, 0, none⟩ = some (.slice A n c)) [] (by kernel_rfl) ?_
    have P_0 := Lib.hid P.out.drew
    have hS0 := P_0.out.x.cell 0
    refine wpAnyN_take (i := 0) (v := ?_) rfl (by kernel_rfl) (fun _ _ _ h => h) (by rfl) (fun W hW => ?_) hS0 ?_
    rotate_left
    · have z0 := hW
      go_simp
      try with_reducible rfl
    try simp only [List.getElem_toArray, List.getElem_cons_zero, List.getElem_cons_succ, Act.put, List.setIfInBounds_toArray, List.set_cons_zero, List.set_cons_succ]
    refine wpAnyN_take (i := 1) (v := ?_) rfl (by kernel_rfl) (fun _ _ _ h => h) (by rfl) (fun W hW => ?_) hS0 ?_
    rotate_left
    · have z0 := hW
      go_simp
      try with_reducible rfl
    try simp only [List.getElem_toArray, List.getElem_cons_zero, List.getElem_cons_succ, Act.put, List.setIfInBounds_toArray, List.set_cons_zero, List.set_cons_succ]
    refine wpAnyN_take (i := 3) (v := ?_) rfl (by kernel_rfl) (fun _ _ _ h => h) (by rfl) (fun W hW => ?_) hS0 ?_
    rotate_left
    · have z0 := hW
      go_simp
      try with_reducible rfl
    try simp only [List.getElem_toArray, List.getElem_cons_zero, List.getElem_cons_succ, Act.put, List.setIfInBounds_toArray, List.set_cons_zero, List.set_cons_succ]
    clear hS0
    clear P
    generalize w3.drew = wd at *
    refine wpAnyN_2 (i := 2) (j := 11) rfl rfl (by kernel_rfl) ?_ ?_
    · intro Kc hK
      go_simp
      go_wp2_with (go_at_call 43; refine (pick_any g K1 1000000 1000000 _ P_0.out.s (by omega) (by omega) (by omega)).mono ?_; rintro e x1 ⟨v1, rfl, v10, v11, s2, g2⟩)
      have P_1 := Lib.hid (P_0.out.pick s2 g2)
      refine hK.out _ _ (fun _ => P_1.out.x.cell 0) ?_
      clear hK Kc s2 g2 P_0
      try simp only [List.getElem_toArray, List.getElem_cons_zero, List.getElem_cons_succ, Act.put, List.setIfInBounds_toArray, List.set_cons_zero, List.set_cons_succ]
      refine wpAnyN_2 (i := 4) (j := 11) rfl rfl (by kernel_rfl) ?_ ?_
      · intro Kc hK
        go_simp
        go_wp2_with (go_at_call 43; refine (pick_any g (K1 + 2) 100000 100000 _ P_1.out.s (by omega) (by omega) (by omega)).mono ?_; rintro e x2 ⟨v2, rfl, v20, v21, s2, g2⟩)
        have P_2 := Lib.hid (P_1.out.pick s2 g2)
        refine hK.out _ _ (fun _ => P_2.out.x.cell 0) ?_
        clear hK Kc s2 g2 P_1
        try simp only [List.getElem_toArray, List.getElem_cons_zero, List.getElem_cons_succ, Act.put, List.setIfInBounds_toArray, List.set_cons_zero, List.set_cons_succ]
        have hm := mul_pick v10 v11 v20 v21
        have um1 : IntKind.i64.wrap (v1 * v2) = v1 * v2 := by rw [IntWalk.i64_in _ (by omega)]
        have um2 : IntKind.i64.wrap (1 + v1 * v2) = 1 + v1 * v2 := by rw [IntWalk.i64_in _ (by omega)]
        have hS0 := P_2.out.x.cell 0
        refine wpAnyN_take (i := 5) (v := ?_) rfl (by kernel_rfl) (fun _ _ _ h => h) (by rfl) (fun W hW => ?_) hS0 ?_
        rotate_left
        · have z0 := hW
          go_simp
          try with_reducible rfl
        try simp only [List.getElem_toArray, List.getElem_cons_zero, List.getElem_cons_succ, Act.put, List.setIfInBounds_toArray, List.set_cons_zero, List.set_cons_succ]
        refine wpAnyN_take (i := 6) (v := ?_) rfl (by kernel_rfl) (fun _ _ _ h => h) (by rfl) (fun W hW => ?_) hS0 ?_
        rotate_left
        · have z0 := hW
          go_simp
          try with_reducible rfl
        try simp only [List.getElem_toArray, List.getElem_cons_zero, List.getElem_cons_succ, Act.put, List.setIfInBounds_toArray, List.set_cons_zero, List.set_cons_succ]
        clear hS0
        clear um1 um2
        generalize v1 * v2 = t at *
        refine wpAnyN_2 (i := 7) (j := 11) rfl rfl (by kernel_rfl) ?_ ?_
        · intro Kc hK
          go_simp
          go_wp2_with (go_at_call 77; refine (powerG_any A n c rs (1 + t) _ hn0 hn1 (Rd.of_own (fun x _ => fac_len x) HLn.out P_2.out.q) HOk.out.wf HOk.out.gok (by omega) (by omega)).mono ?_; rintro e x3 hpost; obtain ⟨A2, n2, c2, k, rfl, hbl, HPk⟩ := hpost.cut)
          have P_3 := Lib.hid (P_2.out.next hbl)
          have HP := Lib.hid (fun h => (HPk h).mono P_2.out.e.size)
          refine hK.out _ _ (fun _ => P_3.out.x.cell 0) ?_
          clear hK Kc hpost hbl HPk P_2
          try simp only [List.getElem_toArray, List.getElem_cons_zero, List.getElem_cons_succ, Act.put, List.setIfInBounds_toArray, List.set_cons_zero, List.set_cons_succ]
          have hS0 := P_3.out.x.cell 0
          refine wpAnyN_take (i := 8) (v := ?_) rfl (by kernel_rfl) (fun _ _ _ h => h) (by rfl) (fun W hW => ?_) hS0 ?_
          rotate_left
          · have z0 := hW
            go_simp
            try with_reducible rfl
          try simp only [List.getElem_toArray, List.getElem_cons_zero, List.getElem_cons_succ, Act.put, List.setIfInBounds_toArray, List.set_cons_zero, List.set_cons_succ]
          refine wpAnyN_take (i := 9) (v := ?_) rfl (by kernel_rfl) (fun _ _ _ h => h) (by rfl) (fun W hW => ?_) hS0 ?_
          rotate_left
          · have z0 := hW
            go_simp
            try with_reducible rfl
          try simp only [List.getElem_toArray, List.getElem_cons_zero, List.getElem_cons_succ, Act.put, List.setIfInBounds_toArray, List.set_cons_zero, List.set_cons_succ]
          refine wpAnyN_take (i := 10) (v := ?_) rfl (by kernel_rfl) (fun _ _ _ h => h) (by rfl) (fun W hW => ?_) hS0 ?_
          rotate_left
          · have z0 := hW
            go_simp
            try with_reducible rfl
          try simp only [List.getElem_toArray, List.getElem_cons_zero, List.getElem_cons_succ, Act.put, List.setIfInBounds_toArray, List.set_cons_zero, List.set_cons_succ]
          clear hS0
          refine wpAnyN_next (i := 11) rfl (by kernel_rfl) (fun Kc hK => ?_)
          go_simp
          have P_4 := Lib.hid (P_3.out.alloc (.cells #[.slice none 0 0] 26))
          have B_4 := Lib.hid (Blk.new x3 26 #[.slice none 0 0])
          have ha4 : w2.heap.size < x3.heap.size := P_3.out.x.lt
          have HP := Lib.hid (fun h => (HP.out h).alloc (.cells #[.slice none 0 0] 26))
          refine hK.out _ _ (fun _ => P_4.out.x.cell 0) ?_
          clear hK Kc
          try simp only [List.getElem_toArray, List.getElem_cons_zero, List.getElem_cons_succ, Act.put, List.setIfInBounds_toArray, List.set_cons_zero, List.set_cons_succ]
          generalize x3.heap.size = a4 at *
          generalize x3.alloc (.cells #[.slice none 0 0] 26) = x4 at *
          clear P_3
          have BZ0 := B_4
          refine wpAnyN_next (i := 12) rfl (by kernel_rfl) (fun Kc hK => ?_)
          have b9c := B_4.out.cell 0
          have b9f := B_4.out.frozen
          have b9l := B_4.out.lt
          go_simp
          have PZ := Lib.hid (P_4.out.far (.slice A2 n2 c2) B_4.out ha4)
          have BZ := Lib.hid (B_4.out.set_ 0 (.slice A2 n2 c2))
          have OZ := Lib.hid (fun h => (HP.out h).keep BZ0.out (.slice A2 n2 c2))
          refine hK.out _ _ (fun _ => PZ.out.x.cell 0) ?_
          clear hK Kc b9c b9f b9l
          try simp only [List.getElem_toArray, List.getElem_cons_zero, List.getElem_cons_succ, Act.put, List.setIfInBounds_toArray, List.set_cons_zero, List.set_cons_succ]
          refine wpAnyN_next (i := 13) rfl (by kernel_rfl) (fun Kc hK => ?_)
          go_simp
          refine hK.out _ _ (fun _ => PZ.out.x.cell 0) ?_
          clear hK Kc
          refine wpAnyN_done (by kernel_rfl) ?_ _
          go_wp2_with fail
          go_meet
          exact ⟨a4, A2, n2, c2, k, rfl, rfl, PZ, BZ, OZ, Lib.hid (by omega)⟩
        · intro Kc hK
          go_simp
          have P_5 := Lib.hid (P_2.out.alloc (.cells #[.slice none 0 0] 26))
          have B_5 := Lib.hid (Blk.new x2 26 #[.slice none 0 0])
          have ha4 : w2.heap.size < x2.heap.size := P_2.out.x.lt
          refine hK.out _ _ (fun _ => P_5.out.x.cell 0) ?_
          clear hK Kc
          try simp only [List.getElem_toArray, List.getElem_cons_zero, List.getElem_cons_succ, Act.put, List.setIfInBounds_toArray, List.set_cons_zero, List.set_cons_succ]
          generalize x2.heap.size = a4 at *
          generalize x2.alloc (.cells #[.slice none 0 0] 26) = x5 at *
          clear P_2
          refine wpAnyN_next (i := 7) rfl (by kernel_rfl) (fun Kc hK => ?_)
          go_simp
          go_wp2_with (go_at_call 77; refine (powerG_any A n c rs (1 + t) _ hn0 hn1 (Rd.of_own (fun x _ => fac_len x) HLn.out P_5.out.q) HOk.out.wf HOk.out.gok (by omega) (by omega)).mono ?_; rintro e x6 hpost; obtain ⟨A2, n2, c2, k, rfl, hbl, HPk⟩ := hpost.cut)
          have P_6 := Lib.hid (P_5.out.next hbl)
          have HP := Lib.hid (fun h => (HPk h).mono P_5.out.e.size)
          have B_6 := Lib.hid (B_5.out.next hbl)
          refine hK.out _ _ (fun _ => P_6.out.x.cell 0) ?_
          clear hK Kc hpost hbl HPk P_5
          try simp only [List.getElem_toArray, List.getElem_cons_zero, List.getElem_cons_succ, Act.put, List.setIfInBounds_toArray, List.set_cons_zero, List.set_cons_succ]
          clear B_5
          have hS0 := P_6.out.x.cell 0
          refine wpAnyN_take (i := 8) (v := ?_) rfl (by kernel_rfl) (fun _ _ _ h => h) (by rfl) (fun W hW => ?_) hS0 ?_
          rotate_left
          · have z0 := hW
            go_simp
            try with_reducible rfl
          try simp only [List.getElem_toArray, List.getElem_cons_zero, List.getElem_cons_succ, Act.put, List.setIfInBounds_toArray, List.set_cons_zero, List.set_cons_succ]
          refine wpAnyN_take (i := 9) (v := ?_) rfl (by kernel_rfl) (fun _ _ _ h => h) (by rfl) (fun W hW => ?_) hS0 ?_
          rotate_left
          · have z0 := hW
            go_simp
            try with_reducible rfl
          try simp only [List.getElem_toArray, List.getElem_cons_zero, List.getElem_cons_succ, Act.put, List.setIfInBounds_toArray, List.set_cons_zero, List.set_cons_succ]
          refine wpAnyN_take (i := 10) (v := ?_) rfl (by kernel_rfl) (fun _ _ _ h => h) (by rfl) (fun W hW => ?_) hS0 ?_
          rotate_left
          · have z0 := hW
            go_simp
            try with_reducible rfl
          try simp only [List.getElem_toArray, List.getElem_cons_zero, List.getElem_cons_succ, Act.put, List.setIfInBounds_toArray, List.set_cons_zero, List.set_cons_succ]
          clear hS0
          have BZ0 := B_6
          refine wpAnyN_next (i := 12) rfl (by kernel_rfl) (fun Kc hK => ?_)
          have b9c := B_6.out.cell 0
          have b9f := B_6.out.frozen
          have b9l := B_6.out.lt
          go_simp
          have PZ := Lib.hid (P_6.out.far (.slice A2 n2 c2) B_6.out ha4)
          have BZ := Lib.hid (B_6.out.set_ 0 (.slice A2 n2 c2))
          have OZ := Lib.hid (fun h => (HP.out h).keep BZ0.out (.slice A2 n2 c2))
          refine hK.out _ _ (fun _ => PZ.out.x.cell 0) ?_
          clear hK Kc b9c b9f b9l
          try simp only [List.getElem_toArray, List.getElem_cons_zero, List.getElem_cons_succ, Act.put, List.setIfInBounds_toArray, List.set_cons_zero, List.set_cons_succ]
          refine wpAnyN_next (i := 13) rfl (by kernel_rfl) (fun Kc hK => ?_)
          go_simp
          refine hK.out _ _ (fun _ => PZ.out.x.cell 0) ?_
          clear hK Kc
          refine wpAnyN_done (by kernel_rfl) ?_ _
          go_wp2_with fail
          go_meet
          exact ⟨a4, A2, n2, c2, k, rfl, rfl, PZ, BZ, OZ, Lib.hid (by omega)⟩
      · intro Kc hK
        go_simp
        have P_7 := Lib.hid (P_1.out.alloc (.cells #[.slice none 0 0] 26))
        have B_7 := Lib.hid (Blk.new x1 26 #[.slice none 0 0])
        have ha4 : w2.heap.size < x1.heap.size := P_1.out.x.lt
        refine hK.out _ _ (fun _ => P_7.out.x.cell 0) ?_
        clear hK Kc
        try simp only [List.getElem_toArray, List.getElem_cons_zero, List.getElem_cons_succ, Act.put, List.setIfInBounds_toArray, List.set_cons_zero, List.set_cons_succ]
        generalize x1.heap.size = a4 at *
        generalize x1.alloc (.cells #[.slice none 0 0] 26) = x7 at *
        clear P_1
        refine wpAnyN_next (i := 4) rfl (by kernel_rfl) (fun Kc hK => ?_)
        go_simp
        go_wp2_with (go_at_call 43; refine (pick_any g (K1 + 2) 100000 100000 _ P_7.out.s (by omega) (by omega) (by omega)).mono ?_; rintro e x8 ⟨v2, rfl, v20, v21, s2, g2⟩)
        have P_8 := Lib.hid (P_7.out.pick s2 g2)
        have B_8 := Lib.hid (B_7.out.grown g2 (by intro e; injection e with e; have := HG; omega))
        refine hK.out _ _ (fun _ => P_8.out.x.cell 0) ?_
        clear hK Kc s2 g2 P_7
        try simp only [List.getElem_toArray, List.getElem_cons_zero, List.getElem_cons_succ, Act.put, List.setIfInBounds_toArray, List.set_cons_zero, List.set_cons_succ]
        clear B_7
        have hm := mul_pick v10 v11 v20 v21
        have um1 : IntKind.i64.wrap (v1 * v2) = v1 * v2 := by rw [IntWalk.i64_in _ (by omega)]
        have um2 : IntKind.i64.wrap (1 + v1 * v2) = 1 + v1 * v2 := by rw [IntWalk.i64_in _ (by omega)]
        have hS0 := P_8.out.x.cell 0
        refine wpAnyN_take (i := 5) (v := ?_) rfl (by kernel_rfl) (fun _ _ _ h => h) (by rfl) (fun W hW => ?_) hS0 ?_
        rotate_left
        · have z0 := hW
          go_simp
          try with_reducible rfl
        try simp only [List.getElem_toArray, List.getElem_cons_zero, List.getElem_cons_succ, Act.put, List.setIfInBounds_toArray, List.set_cons_zero, List.set_cons_succ]
        refine wpAnyN_take (i := 6) (v := ?_) rfl (by kernel_rfl) (fun _ _ _ h => h) (by rfl) (fun W hW => ?_) hS0 ?_
        rotate_left
        · have z0 := hW
          go_simp
          try with_reducible rfl
        try simp only [List.getElem_toArray, List.getElem_cons_zero, List.getElem_cons_succ, Act.put, List.setIfInBounds_toArray, List.set_cons_zero, List.set_cons_succ]
        clear hS0
        clear um1 um2
        generalize v1 * v2 = t at *
        refine wpAnyN_next (i := 7) rfl (by kernel_rfl) (fun Kc hK => ?_)
        go_simp
        go_wp2_with (go_at_call 77; refine (powerG_any A n c rs (1 + t) _ hn0 hn1 (Rd.of_own (fun x _ => fac_len x) HLn.out P_8.out.q) HOk.out.wf HOk.out.gok (by omega) (by omega)).mono ?_; rintro e x9 hpost; obtain ⟨A2, n2, c2, k, rfl, hbl, HPk⟩ := hpost.cut)
        have P_9 := Lib.hid (P_8.out.next hbl)
        have HP := Lib.hid (fun h => (HPk h).mono P_8.out.e.size)
        have B_9 := Lib.hid (B_8.out.next hbl)
        refine hK.out _ _ (fun _ => P_9.out.x.cell 0) ?_
        clear hK Kc hpost hbl HPk P_8
        try simp only [List.getElem_toArray, List.getElem_cons_zero, List.getElem_cons_succ, Act.put, List.setIfInBounds_toArray, List.set_cons_zero, List.set_cons_succ]
        clear B_8
        have hS0 := P_9.out.x.cell 0
        refine wpAnyN_take (i := 8) (v := ?_) rfl (by kernel_rfl) (fun _ _ _ h => h) (by rfl) (fun W hW => ?_) hS0 ?_
        rotate_left
        · have z0 := hW
          go_simp
          try with_reducible rfl
        try simp only [List.getElem_toArray, List.getElem_cons_zero, List.getElem_cons_succ, Act.put, List.setIfInBounds_toArray, List.set_cons_zero, List.set_cons_succ]
        refine wpAnyN_take (i := 9) (v := ?_) rfl (by kernel_rfl) (fun _ _ _ h => h) (by rfl) (fun W hW => ?_) hS0 ?_
        rotate_left
        · have z0 := hW
          go_simp
          try with_reducible rfl
        try simp only [List.getElem_toArray, List.getElem_cons_zero, List.getElem_cons_succ, Act.put, List.setIfInBounds_toArray, List.set_cons_zero, List.set_cons_succ]
        refine wpAnyN_take (i := 10) (v := ?_) rfl (by kernel_rfl) (fun _ _ _ h => h) (by rfl) (fun W hW => ?_) hS0 ?_
        rotate_left
        · have z0 := hW
          go_simp
          try with_reducible rfl
        try simp only [List.getElem_toArray, List.getElem_cons_zero, List.getElem_cons_succ, Act.put, List.setIfInBounds_toArray, List.set_cons_zero, List.set_cons_succ]
        clear hS0
        have BZ0 := B_9
        refine wpAnyN_next (i := 12) rfl (by kernel_rfl) (fun Kc hK => ?_)
        have b9c := B_9.out.cell 0
        have b9f := B_9.out.frozen
        have b9l := B_9.out.lt
        go_simp
        have PZ := Lib.hid (P_9.out.far (.slice A2 n2 c2) B_9.out ha4)
        have BZ := Lib.hid (B_9.out.set_ 0 (.slice A2 n2 c2))
        have OZ := Lib.hid (fun h => (HP.out h).keep BZ0.out (.slice A2 n2 c2))
        refine hK.out _ _ (fun _ => PZ.out.x.cell 0) ?_
        clear hK Kc b9c b9f b9l
        try simp only [List.getElem_toArray, List.getElem_cons_zero, List.getElem_cons_succ, Act.put, List.setIfInBounds_toArray, List.set_cons_zero, List.set_cons_succ]
        refine wpAnyN_next (i := 13) rfl (by kernel_rfl) (fun Kc hK => ?_)
        go_simp
        refine hK.out _ _ (fun _ => PZ.out.x.cell 0) ?_
        clear hK Kc
        refine wpAnyN_done (by kernel_rfl) ?_ _
        go_wp2_with fail
        go_meet
        exact ⟨a4, A2, n2, c2, k, rfl, rfl, PZ, BZ, OZ, Lib.hid (by omega)⟩
    · intro Kc hK
      go_simp
      have P_10 := Lib.hid (P_0.out.alloc (.cells #[.slice none 0 0] 26))
      have B_10 := Lib.hid (Blk.new wd 26 #[.slice none 0 0])
      have ha4 : w2.heap.size < wd.heap.size := P_0.out.x.lt
      refine hK.out _ _ (fun _ => P_10.out.x.cell 0) ?_
      clear hK Kc
      try simp only [List.getElem_toArray, List.getElem_cons_zero, List.getElem_cons_succ, Act.put, List.setIfInBounds_toArray, List.set_cons_zero, List.set_cons_succ]
      generalize wd.heap.size = a4 at *
      generalize wd.alloc (.cells #[.slice none 0 0] 26) = x10 at *
      clear P_0
      refine wpAnyN_next (i := 2) rfl (by kernel_rfl) (fun Kc hK => ?_)
      go_simp
      go_wp2_with (go_at_call 43; refine (pick_any g K1 1000000 1000000 _ P_10.out.s (by omega) (by omega) (by omega)).mono ?_; rintro e x11 ⟨v1, rfl, v10, v11, s2, g2⟩)
      have P_11 := Lib.hid (P_10.out.pick s2 g2)
      have B_11 := Lib.hid (B_10.out.grown g2 (by intro e; injection e with e; have := HG; omega))
      refine hK.out _ _ (fun _ => P_11.out.x.cell 0) ?_
      clear hK Kc s2 g2 P_10
      try simp only [List.getElem_toArray, List.getElem_cons_zero, List.getElem_cons_succ, Act.put, List.setIfInBounds_toArray, List.set_cons_zero, List.set_cons_succ]
      clear B_10
      refine wpAnyN_next (i := 4) rfl (by kernel_rfl) (fun Kc hK => ?_)
      go_simp
      go_wp2_with (go_at_call 43; refine (pick_any g (K1 + 2) 100000 100000 _ P_11.out.s (by omega) (by omega) (by omega)).mono ?_; rintro e x12 ⟨v2, rfl, v20, v21, s2, g2⟩)
      have P_12 := Lib.hid (P_11.out.pick s2 g2)
      have B_12 := Lib.hid (B_11.out.grown g2 (by intro e; injection e with e; have := HG; omega))
      refine hK.out _ _ (fun _ => P_12.out.x.cell 0) ?_
      clear hK Kc s2 g2 P_11
      try simp only [List.getElem_toArray, List.getElem_cons_zero, List.getElem_cons_succ, Act.put, List.setIfInBounds_toArray, List.set_cons_zero, List.set_cons_succ]
      clear B_11
      have hm := mul_pick v10 v11 v20 v21
      have um1 : IntKind.i64.wrap (v1 * v2) = v1 * v2 := by rw [IntWalk.i64_in _ (by omega)]
      have um2 : IntKind.i64.wrap (1 + v1 * v2) = 1 + v1 * v2 := by rw [IntWalk.i64_in _ (by omega)]
      have hS0 := P_12.out.x.cell 0
      refine wpAnyN_take (i := 5) (v := ?_) rfl (by kernel_rfl) (fun _ _ _ h => h) (by rfl) (fun W hW => ?_) hS0 ?_
      rotate_left
      · have z0 := hW
        go_simp
        try with_reducible rfl
      try simp only [List.getElem_toArray, List.getElem_cons_zero, List.getElem_cons_succ, Act.put, List.setIfInBounds_toArray, List.set_cons_zero, List.set_cons_succ]
      refine wpAnyN_take (i := 6) (v := ?_) rfl (by kernel_rfl) (fun _ _ _ h => h) (by rfl) (fun W hW => ?_) hS0 ?_
      rotate_left
      · have z0 := hW
        go_simp
        try with_reducible rfl
      try simp only [List.getElem_toArray, List.getElem_cons_zero, List.getElem_cons_succ, Act.put, List.setIfInBounds_toArray, List.set_cons_zero, List.set_cons_succ]
      clear hS0
      clear um1 um2
      generalize v1 * v2 = t at *
      refine wpAnyN_next (i := 7) rfl (by kernel_rfl) (fun Kc hK => ?_)
      go_simp
      go_wp2_with (go_at_call 77; refine (powerG_any A n c rs (1 + t) _ hn0 hn1 (Rd.of_own (fun x _ => fac_len x) HLn.out P_12.out.q) HOk.out.wf HOk.out.gok (by omega) (by omega)).mono ?_; rintro e x13 hpost; obtain ⟨A2, n2, c2, k, rfl, hbl, HPk⟩ := hpost.cut)
      have P_13 := Lib.hid (P_12.out.next hbl)
      have HP := Lib.hid (fun h => (HPk h).mono P_12.out.e.size)
      have B_13 := Lib.hid (B_12.out.next hbl)
      refine hK.out _ _ (fun _ => P_13.out.x.cell 0) ?_
      clear hK Kc hpost hbl HPk P_12
      try simp only [List.getElem_toArray, List.getElem_cons_zero, List.getElem_cons_succ, Act.put, List.setIfInBounds_toArray, List.set_cons_zero, List.set_cons_succ]
      clear B_12
      have hS0 := P_13.out.x.cell 0
      refine wpAnyN_take (i := 8) (v := ?_) rfl (by kernel_rfl) (fun _ _ _ h => h) (by rfl) (fun W hW => ?_) hS0 ?_
      rotate_left
      · have z0 := hW
        go_simp
        try with_reducible rfl
      try simp only [List.getElem_toArray, List.getElem_cons_zero, List.getElem_cons_succ, Act.put, List.setIfInBounds_toArray, List.set_cons_zero, List.set_cons_succ]
      refine wpAnyN_take (i := 9) (v := ?_) rfl (by kernel_rfl) (fun _ _ _ h => h) (by rfl) (fun W hW => ?_) hS0 ?_
      rotate_left
      · have z0 := hW
        go_simp
        try with_reducible rfl
      try simp only [List.getElem_toArray, List.getElem_cons_zero, List.getElem_cons_succ, Act.put, List.setIfInBounds_toArray, List.set_cons_zero, List.set_cons_succ]
      refine wpAnyN_take (i := 10) (v := ?_) rfl (by kernel_rfl) (fun _ _ _ h => h) (by rfl) (fun W hW => ?_) hS0 ?_
      rotate_left
      · have z0 := hW
        go_simp
        try with_reducible rfl
      try simp only [List.getElem_toArray, List.getElem_cons_zero, List.getElem_cons_succ, Act.put, List.setIfInBounds_toArray, List.set_cons_zero, List.set_cons_succ]
      clear hS0
      have BZ0 := B_13
      refine wpAnyN_next (i := 12) rfl (by kernel_rfl) (fun Kc hK => ?_)
      have b9c := B_13.out.cell 0
      have b9f := B_13.out.frozen
      have b9l := B_13.out.lt
      go_simp
      have PZ := Lib.hid (P_13.out.far (.slice A2 n2 c2) B_13.out ha4)
      have BZ := Lib.hid (B_13.out.set_ 0 (.slice A2 n2 c2))
      have OZ := Lib.hid (fun h => (HP.out h).keep BZ0.out (.slice A2 n2 c2))
      refine hK.out _ _ (fun _ => PZ.out.x.cell 0) ?_
      clear hK Kc b9c b9f b9l
      try simp only [List.getElem_toArray, List.getElem_cons_zero, List.getElem_cons_succ, Act.put, List.setIfInBounds_toArray, List.set_cons_zero, List.set_cons_succ]
      refine wpAnyN_next (i := 13) rfl (by kernel_rfl) (fun Kc hK => ?_)
      go_simp
      refine hK.out _ _ (fun _ => PZ.out.x.cell 0) ?_
      clear hK Kc
      refine wpAnyN_done (by kernel_rfl) ?_ _
      go_wp2_with fail
      go_meet
      exact ⟨a4, A2, n2, c2, k, rfl, rfl, PZ, BZ, OZ, Lib.hid (by omega)⟩
  case rest =>
    obtain ⟨a4, A2, n2, c2, k, rfl, rfl, P2, B2, O2, hX4⟩ := hcut
    clear P
    have x0 := P2.out.x.cell 0
    have xl := P2.out.x.lt
    have y0 := B2.out.cell 0
    have yl := B2.out.lt
    have r0 := P2.out.r.cell 0
    have rf := P2.out.r.frozen
    have rl := P2.out.r.lt
    by_cases hk0 : k = 0
    · subst hk0
      have G2 := O2.out rfl
      go_wp2_with fail
      refine (one_any g (K1 + 2 + 2) 2 wc P2.out.s (by omega) (by omega)).mono ?_
      rintro e w3 ⟨b, rfl, s3, g3⟩
      have P3 := Lib.hid (P2.out.pick s3 g3)
      have B3 := Lib.hid (B2.out.grown g3 (by intro e; injection e with e; have := hX4.out; omega))
      have G3 := Lib.hid (G2.draw g3 HG)
      clear P2 B2 G2 O2 s3 g3 x0 xl y0 yl r0 rf rl
      have x0 := P3.out.x.cell 0
      have xl := P3.out.x.lt
      have y0 := B3.out.cell 0
      have yl := B3.out.lt
      have r0 := P3.out.r.cell 0
      have rf := P3.out.r.frozen
      have rl := P3.out.r.lt
      cases b
      · go_wp2_with fail
        have x8 := HuW.x8 P3.out (.slice A2 n2 c2)
        exact bodyPost_ret (v := .agg #[.slice A2 n2 c2]) (by simp [results, Try.results30, go_sem, x8]) rfl (HuW.tell P3.out G3.out (by omega))
      · obtain ⟨A2', c2', rs2, hv, Gi⟩ := G3.out
        injection hv with ha hb hc
        subst ha; subst hb; subst hc
        go_upto_region 6 with fail
        go_cut [4, 5] from 6 (fun p_ k_ wx => ∃ (A2 : Option Addr) (n2 c2 : Nat) (k : Int), p_ = .pointer (some ⟨a4, 0, none⟩) ∧ k_ = .int .i64 k ∧ Hid (HuW w wx g (K1 + 2 + 2 + 2 + 1000) w2.heap.size A n c rs) ∧ Hid (Blk wx a4 26 #[.slice A2 n2 c2]) ∧ Hid (k = 0 → GrAt wx w.heap.size (.slice A2 n2 c2)))
        case first =>
          refine wp_region_N (fun W => W.cell? ⟨a4, 0, none⟩ = some (.slice A2 rs2.length c2)) [6, 7, 8] (by kernel_rfl) ?_
          have P_0 := Lib.hid P3.out.drew
          have B_0 := Lib.hid B3.out.drew
          have Gi_0 := Lib.hid (Gi.next (Below.refl _ _).drew)
          have hS0 := B_0.out.cell 0
          refine wpAnyN_take (i := 0) (v := ?_) rfl (by kernel_rfl) (fun _ _ _ h => h) (by rfl) (fun W hW => ?_) hS0 ?_
          rotate_left
          · have z0 := hW
            go_simp
            try with_reducible rfl
          try simp only [List.getElem_toArray, List.getElem_cons_zero, List.getElem_cons_succ, Act.put, List.setIfInBounds_toArray, List.set_cons_zero, List.set_cons_succ]
          refine wpAnyN_take (i := 1) (v := ?_) rfl (by kernel_rfl) (fun _ _ _ h => h) (by rfl) (fun W hW => ?_) hS0 ?_
          rotate_left
          · have z0 := hW
            go_simp
            try with_reducible rfl
          try simp only [List.getElem_toArray, List.getElem_cons_zero, List.getElem_cons_succ, Act.put, List.setIfInBounds_toArray, List.set_cons_zero, List.set_cons_succ]
          clear hS0 P3 B3 Gi x0 xl y0 yl r0 rf rl
          generalize w3.drew = wd at *
          refine wpAnyN_next (i := 2) rfl (by kernel_rfl) (fun Kc hK => ?_)
          go_simp
          go_wp2_with (go_at_call 33; refine (l02Drawn_any g (K1 + 2 + 2 + 2) 100 wd P_0.out.s (by omega) (by omega) (by omega)).mono ?_; rintro e x1 ⟨A3, c3, rs3, rfl, ok3, own3, s3, g3⟩)
          have P_1 := Lib.hid (P_0.out.pick s3 g3)
          have B_1 := Lib.hid (B_0.out.grown g3 (by intro e; injection e with e; have := hX4.out; omega))
          have Gi_1 := Lib.hid (show GrIn x1 w.heap.size A2 c2 rs2 from ⟨Gi_0.out.wf, Gi_0.out.pos, Gi_0.out.ok, own_kept Gi_0.out.own g3 HG⟩)
          have O3 := Lib.hid own3
          have Ok3 := Lib.hid ok3
          refine hK.out _ _ (fun _ => B_1.out.cell 0) ?_
          clear hK Kc s3 g3 own3 ok3 P_0 B_0 Gi_0
          try simp only [List.getElem_toArray, List.getElem_cons_zero, List.getElem_cons_succ, Act.put, List.setIfInBounds_toArray, List.set_cons_zero, List.set_cons_succ]
          have hp3 := Ok3.out.pos
          have hp2 := Gi_1.out.pos
          refine wpAnyN_next (i := 3) rfl (by kernel_rfl) (fun Kc hK => ?_)
          go_simp
          go_wp2_with (go_at_call 78; refine (joinG_any A2 rs2.length c2 rs2 A3 rs3.length c3 rs3 x1 hp2 hp3 (Rd.of_own (fun x _ => fac_len x) rfl Gi_1.out.own) (Rd.of_own (fun x _ => fac_len x) rfl O3.out) Gi_1.out.wf Ok3.out.wf Gi_1.out.ok Ok3.out.gok).mono ?_; rintro e x2 hpost; obtain ⟨A9, n9, c9, k9, rfl, hbl, HPk⟩ := join_cut hpost (join_wf Gi_1.out.wf Ok3.out.wf) (join_pos hp2))
          have P_2 := Lib.hid (P_1.out.next hbl)
          have B_2 := Lib.hid (B_1.out.next hbl)
          have H9 := Lib.hid (fun h => (HPk h).mono P_1.out.e.size)
          refine hK.out _ _ (fun _ => B_2.out.cell 0) ?_
          clear hK Kc hpost hbl HPk P_1 B_1
          try simp only [List.getElem_toArray, List.getElem_cons_zero, List.getElem_cons_succ, Act.put, List.setIfInBounds_toArray, List.set_cons_zero, List.set_cons_succ]
          have hS0 := B_2.out.cell 0
          refine wpAnyN_take (i := 4) (v := ?_) rfl (by kernel_rfl) (fun _ _ _ h => h) (by rfl) (fun W hW => ?_) hS0 ?_
          rotate_left
          · have z0 := hW
            go_simp
            try with_reducible rfl
          try simp only [List.getElem_toArray, List.getElem_cons_zero, List.getElem_cons_succ, Act.put, List.setIfInBounds_toArray, List.set_cons_zero, List.set_cons_succ]
          refine wpAnyN_2 (i := 5) (j := 6) rfl rfl (by kernel_rfl) ?_ ?_
          · intro Kc hK
            go_simp
            refine hK.out _ _ (fun _ => hS0) ?_
            clear hK Kc
            try simp only [List.getElem_toArray, List.getElem_cons_zero, List.getElem_cons_succ, Act.put, List.setIfInBounds_toArray, List.set_cons_zero, List.set_cons_succ]
            refine wpAnyN_2 (i := 6) (j := 7) rfl rfl (by kernel_rfl) ?_ ?_
            · intro Kc hK
              go_simp
              refine hK.out _ _ (fun h => absurd h (by decide)) ?_
              clear hK Kc
              try simp only [List.getElem_toArray, List.getElem_cons_zero, List.getElem_cons_succ, Act.put, List.setIfInBounds_toArray, List.set_cons_zero, List.set_cons_succ]
              refine wpAnyN_next (i := 7) rfl (by kernel_rfl) (fun Kc hK => ?_)
              have b9c := B_2.out.cell 0
              have b9f := B_2.out.frozen
              have b9l := B_2.out.lt
              go_simp
              have PZ := Lib.hid (P_2.out.far (.slice A9 n9 c9) B_2.out hX4.out)
              have BZ := Lib.hid (B_2.out.set_ 0 (.slice A9 n9 c9))
              have HZ := Lib.hid (fun h => (H9.out h).keep B_2.out (.slice A9 n9 c9))
              refine hK.out _ _ (fun h => absurd h (by decide)) ?_
              clear hK Kc b9c b9f b9l hS0
              try simp only [List.getElem_toArray, List.getElem_cons_zero, List.getElem_cons_succ, Act.put, List.setIfInBounds_toArray, List.set_cons_zero, List.set_cons_succ]
              refine wpAnyN_next (i := 8) rfl (by kernel_rfl) (fun Kc hK => ?_)
              go_simp
              refine hK.out _ _ (fun h => absurd h (by decide)) ?_
              clear hK Kc
              refine wpAnyN_done (by kernel_rfl) ?_ _
              go_wp2_with fail
              go_meet
              exact ⟨A9, n9, c9, k9, rfl, rfl, PZ, BZ, HZ⟩
            · intro Kc hK
              have b9c := B_2.out.cell 0
              have b9f := B_2.out.frozen
              have b9l := B_2.out.lt
              go_simp
              have PZ := Lib.hid (P_2.out.far (.slice A9 n9 c9) B_2.out hX4.out)
              have BZ := Lib.hid (B_2.out.set_ 0 (.slice A9 n9 c9))
              have HZ := Lib.hid (fun h => (H9.out h).keep B_2.out (.slice A9 n9 c9))
              refine hK.out _ _ (fun h => absurd h (by decide)) ?_
              clear hK Kc b9c b9f b9l hS0
              try simp only [List.getElem_toArray, List.getElem_cons_zero, List.getElem_cons_succ, Act.put, List.setIfInBounds_toArray, List.set_cons_zero, List.set_cons_succ]
              refine wpAnyN_next (i := 6) rfl (by kernel_rfl) (fun Kc hK => ?_)
              go_simp
              refine hK.out _ _ (fun h => absurd h (by decide)) ?_
              clear hK Kc
              try simp only [List.getElem_toArray, List.getElem_cons_zero, List.getElem_cons_succ, Act.put, List.setIfInBounds_toArray, List.set_cons_zero, List.set_cons_succ]
              refine wpAnyN_next (i := 8) rfl (by kernel_rfl) (fun Kc hK => ?_)
              go_simp
              refine hK.out _ _ (fun h => absurd h (by decide)) ?_
              clear hK Kc
              refine wpAnyN_done (by kernel_rfl) ?_ _
              go_wp2_with fail
              go_meet
              exact ⟨A9, n9, c9, k9, rfl, rfl, PZ, BZ, HZ⟩
          · intro Kc hK
            go_simp
            refine hK.out _ _ (fun h => absurd h (by decide)) ?_
            clear hK Kc
            try simp only [List.getElem_toArray, List.getElem_cons_zero, List.getElem_cons_succ, Act.put, List.setIfInBounds_toArray, List.set_cons_zero, List.set_cons_succ]
            refine wpAnyN_next (i := 5) rfl (by kernel_rfl) (fun Kc hK => ?_)
            go_simp
            refine hK.out _ _ (fun _ => hS0) ?_
            clear hK Kc
            try simp only [List.getElem_toArray, List.getElem_cons_zero, List.getElem_cons_succ, Act.put, List.setIfInBounds_toArray, List.set_cons_zero, List.set_cons_succ]
            refine wpAnyN_next (i := 7) rfl (by kernel_rfl) (fun Kc hK => ?_)
            have b9c := B_2.out.cell 0
            have b9f := B_2.out.frozen
            have b9l := B_2.out.lt
            go_simp
            have PZ := Lib.hid (P_2.out.far (.slice A9 n9 c9) B_2.out hX4.out)
            have BZ := Lib.hid (B_2.out.set_ 0 (.slice A9 n9 c9))
            have HZ := Lib.hid (fun h => (H9.out h).keep B_2.out (.slice A9 n9 c9))
            refine hK.out _ _ (fun h => absurd h (by decide)) ?_
            clear hK Kc b9c b9f b9l hS0
            try simp only [List.getElem_toArray, List.getElem_cons_zero, List.getElem_cons_succ, Act.put, List.setIfInBounds_toArray, List.set_cons_zero, List.set_cons_succ]
            refine wpAnyN_next (i := 8) rfl (by kernel_rfl) (fun Kc hK => ?_)
            go_simp
            refine hK.out _ _ (fun h => absurd h (by decide)) ?_
            clear hK Kc
            refine wpAnyN_done (by kernel_rfl) ?_ _
            go_wp2_with fail
            go_meet
            exact ⟨A9, n9, c9, k9, rfl, rfl, PZ, BZ, HZ⟩
        case rest =>
          obtain ⟨A9, n9, c9, k, rfl, rfl, P4, B4, G4⟩ := hcut
          clear P3 B3 G3 Gi x0 xl y0 yl r0 rf rl
          have x0 := P4.out.x.cell 0
          have xl := P4.out.x.lt
          have y0 := B4.out.cell 0
          have yl := B4.out.lt
          have r0 := P4.out.r.cell 0
          have rf := P4.out.r.frozen
          have rl := P4.out.r.lt
          by_cases hk0 : k = 0
          · subst hk0
            have G5 := G4.out rfl
            go_wp2_with fail
            have x8 := HuW.x8 P4.out (.slice A9 n9 c9)
            exact bodyPost_ret (v := .agg #[.slice A9 n9 c9]) (by simp [results, Try.results30, go_sem, x8]) rfl (HuW.tell P4.out G5 (by omega))
          · have hk1 : (k == 0) = false := by simpa using hk0
            go_wp2_with fail
            have x8 := HuW.x8 P4.out (.slice A n c)
            exact bodyPost_ret (v := .agg #[.slice A n c]) (by simp [results, Try.results30, go_sem, x8]) rfl (HuW.tell P4.out ⟨A, c, rs, by rw [HLn.out], HOk.out.wf, by rw [HLn.out]; exact hn0, HOk.out.gok, by rw [HLn.out]; exact P4.out.q⟩ (by omega))
    · have hk1 : (k == 0) = false := by simpa using hk0
      go_wp2_with fail
      have x8 := HuW.x8 P2.out (.slice A n c)
      exact bodyPost_ret (v := .agg #[.slice A n c]) (by simp [results, Try.results30, go_sem, x8]) rfl (HuW.tell P2.out ⟨A, c, rs, by rw [HLn.out], HOk.out.wf, by rw [HLn.out]; exact hn0, HOk.out.gok, by rw [HLn.out]; exact P2.out.q⟩ (by omega))
end Go.Proofs.Ytecnkmndmnefdaa


/-
  What laws draw: a long word's grammar, a number, a letter.
-/
namespace Go.Proofs.Ytecnkmndmnefdaa
open Go.RowKit

/-- a grammar that is drawn, whose word has at most a quarter of the most letters -/
def HgNew (w : World) (e : Ending) (w' : World) : Prop :=
  ∃ A c rs, e = .returned (.agg #[.slice A rs.length c]) ∧ GrIn w' w.heap.size A c rs ∧ (wdN rs).length ≤ 250000000000000 ∧ Below w.heap.size w w'
theorem big_lens {rs : List Fac} (h : (gOk rs).isSome = true) : ∃ ls, gLens rs [] = some ls ∧ rs.length ≤ 400 ∧ ls.length = rs.length := by
  obtain ⟨ls, hls⟩ := Option.isSome_iff_exists.1 h
  exact ⟨ls, (gOk_lens hls).1, (gOk_lens hls).2.1, (gOk_lens hls).2.2⟩
set_option maxHeartbeats 2000000 in
set_option maxRecDepth 100000 in
theorem p6Huge_any (A : Option Addr) (n c : Nat) (bs : List UInt8) (w : World) (hn : n ≤ 4096) (hr : Rd w w.heap.size A n 1 byteE bs) :
    Calls Try.prog 7 #[.slice A n c] w (HgNew w) := by
  have HR := Lib.hid hr; clear hr
  go_enter Try.func7, Try.ntmps7
  go_wp2_with fail
  refine namedC fun w0 H0 => ?_
  have hb0 : Below w.heap.size w w0 := by rw [H0.out]; (repeat first | exact Below.refl _ _ | assumption | refine Below.drew ?_ | refine Below.alloc ?_ (by first | exact Nat.le_refl _ | (simp; done) | omega | (simp; omega)) _ | refine Below.setCell ?_ (by first | exact Nat.le_refl _ | (simp; done) | omega | (simp; omega)) _)
  have B0 := Lib.hid (show Blk w0 w.heap.size 26 #[.slice none 0 0] by rw [H0.out]; exact Blk.new _ _ _)
  clear H0
  refine (l00From_any A n c bs w0 hn (HR.out.next hb0)).mono ?_
  rintro e w1 ⟨g, rfl, hg, s1, hb1⟩
  have b1 := Lib.hid (hb0.trans (hb1.mono hb0.size))
  have B1 := Lib.hid (B0.out.next hb1)
  have hg2 : w.heap.size < g := by have := B0.out.lt; omega
  have S1 := Lib.hid s1
  clear s1 hb1 hb0 B0
  go_wp2_with fail
  go_loopw [4] (fun i_ w' => ∃ i : Nat, i_ = .int .i64 i ∧ i ≤ 3 ∧ Hid (Src w' g (3000 * i)) ∧ Hid (Below w.heap.size w w') ∧ Hid (Blk w' w.heap.size 26 #[.slice none 0 0])) (fun i_ _ => 3 - (intOf i_).toNat)
  case atStart => exact ⟨0, rfl, by omega, S1, b1, B1⟩
  case round =>
    obtain ⟨i, rfl, hi, S2, b2, B2⟩ := hrel
    clear S1 b1 B1
    by_cases hlt : i < 3
    · have i1 : (i : Int) < 3 := by omega
      go_wp2_with fail
      refine (l02Huge_any g (3000 * i) wr S2.out (by omega)).mono ?_
      rintro e w3 ⟨A3, c3, rs, rfl, gi, s3, g3⟩
      have S3 := Lib.hid (s3.next ((Below.refl _ _).alloc (Nat.le_refl _) (.cells #[.slice A3 rs.length c3] 26)))
      have b3 := Lib.hid ((b2.out.grown g3 b2.out.size (fun k e => by injection e; omega)).alloc (Nat.le_trans b2.out.size g3.size) (.cells #[.slice A3 rs.length c3] 26))
      have B3 := Lib.hid ((B2.out.grown g3 (by intro e; injection e with e; omega)).alloc (.cells #[.slice A3 rs.length c3] 26))
      have G3 := Lib.hid ((gi.mono b2.out.size).next ((Below.refl _ _).alloc (Nat.le_refl _) (.cells #[.slice A3 rs.length c3] 26)))
      have X3 := Lib.hid (Blk.new w3 26 #[.slice A3 rs.length c3])
      have hxx : w.heap.size < w3.heap.size := by have := g3.size; have := B2.out.lt; omega
      clear S2 b2 B2 s3 g3 gi
      generalize hw4 : w3.alloc (.cells #[.slice A3 rs.length c3] 26) = w4 at *
      obtain ⟨ls, hls, hlen, hll⟩ := big_lens G3.out.ok
      have HLS := Lib.hid hls
      have hlast := last_word hls
      have Z3 := Lib.hid (wf_sz G3.out.wf)
      have R3 := Lib.hid (Rd.of_own (fun x _ => fac_len x) rfl G3.out.own)
      have OK3 := Lib.hid G3.out.ok
      obtain ⟨v, hv⟩ : ∃ v, lastI ls = v := ⟨_, rfl⟩
      have Hv := Lib.hid hv
      clear hls
      go_wp2_with fail
      refine (l02Ok_any w3.heap.size A3 rs.length c3 rs w4 X3.out.lt (X3.out.cell 0) (by omega) R3.out Z3.out true OK3.out).mono ?_
      rintro e w5 ⟨rfl, hb5⟩
      have S5 := Lib.hid (S3.out.next hb5)
      have b5 := Lib.hid (b3.out.trans (hb5.mono b3.out.size))
      have B5 := Lib.hid (B3.out.next hb5)
      have G5 := Lib.hid (G3.out.next hb5)
      have X5 := Lib.hid (X3.out.next hb5)
      have R5 := Lib.hid (Rd.of_own (fun x _ => fac_len x) rfl G5.out.own)
      clear S3 b3 B3 G3 X3 hb5 hw4 R3
      go_wp2_with fail
      refine (l02Length_any w3.heap.size A3 rs.length c3 rs w5 X5.out.lt (X5.out.cell 0) (by omega) R5.out Z3.out ls HLS.out).mono ?_
      rintro e w6 ⟨rfl, hb6⟩
      have S6 := Lib.hid (S5.out.next hb6)
      have b6 := Lib.hid (b5.out.trans (hb6.mono b5.out.size))
      have B6 := Lib.hid (B5.out.next hb6)
      have G6 := Lib.hid (G5.out.next hb6)
      have X6 := Lib.hid (X5.out.next hb6)
      clear S5 b5 B5 G5 X5 hb6 R5
      rw [Hv.out]
      by_cases hle : v ≤ 250000000000000
      · have hle1 := decide_eq_true hle
        have x0 := X6.out.cell 0
        have xl := X6.out.lt
        have r0 := B6.out.cell 0
        have rf := B6.out.frozen
        have rl := B6.out.lt
        have x8 : (w6.setCell ⟨w.heap.size, 0, none⟩ (.slice A3 rs.length c3)).cell? ⟨w.heap.size, 0, none⟩ = some (.slice A3 rs.length c3) := by rw [(B6.out.set_ 0 (.slice A3 rs.length c3)).cell 0]; rfl
        have b8 := Lib.hid (b6.out.setCell (p := ⟨w.heap.size, 0, none⟩) (Nat.le_refl _) (.slice A3 rs.length c3))
        have O8 := Lib.hid (own_kept' (i := 0) G6.out.own B6.out (by decide) (.slice A3 rs.length c3))
        go_wp2_with fail
        refine bodyPost_ret (v := .agg #[.slice A3 rs.length c3]) (by simp [results, Try.results7, go_sem, x8]) rfl ?_
        exact ⟨A3, c3, rs, rfl, ⟨G6.out.wf, G6.out.pos, G6.out.ok, O8.out⟩, by omega, b8.out⟩
      · have hle1 := decide_eq_false hle
        go_wp2_with fail
        go_roundw
        case rel => exact ⟨i + 1, by go_num, by omega, Lib.hid (S6.out.mono (by omega)), b6, B6⟩
        case measure => simp [intOf]; omega
    · have i1 : ¬ ((i : Int) < 3) := by omega
      go_wp2_with fail
      refine (l02Drawn_any g (3000 * i) 8 wr S2.out (by omega) (by omega) (by omega)).mono ?_
      rintro e w3 ⟨A3, c3, rs, rfl, ok, own3, s3, g3⟩
      have B3 := Lib.hid (B2.out.grown g3 (by intro e; injection e with e; omega))
      have b3 := Lib.hid (b2.out.grown g3 b2.out.size (fun k e => by injection e; omega))
      have O3 := Lib.hid (own_kept' (i := 0) (own3.mono b2.out.size) B3.out (by decide) (.slice A3 rs.length c3))
      have Ok := Lib.hid ok
      have r0 := B3.out.cell 0
      have rf := B3.out.frozen
      have rl := B3.out.lt
      have x8 : (w3.setCell ⟨w.heap.size, 0, none⟩ (.slice A3 rs.length c3)).cell? ⟨w.heap.size, 0, none⟩ = some (.slice A3 rs.length c3) := by rw [(B3.out.set_ 0 (.slice A3 rs.length c3)).cell 0]; rfl
      have b8 := Lib.hid (b3.out.setCell (p := ⟨w.heap.size, 0, none⟩) (Nat.le_refl _) (.slice A3 rs.length c3))
      clear own3 s3 g3 ok
      go_wp2_with fail
      refine bodyPost_ret (v := .agg #[.slice A3 rs.length c3]) (by simp [results, Try.results7, go_sem, x8]) rfl ?_
      exact ⟨A3, c3, rs, rfl, ⟨Ok.out.wf, Ok.out.pos, Ok.out.gok, O3.out⟩, by have := Ok.out.len; omega, b8.out⟩
theorem p6Pick_any (A : Option Addr) (n c : Nat) (bs : List UInt8) (m k : Int) (w : World) (hn : n ≤ 4096) (hr : Rd w w.heap.size A n 1 byteE bs) (hm : m ≤ k) (hk : 1 ≤ k) :
    Calls Try.prog 12 #[.slice A n c, .int .i64 m] w (fun e w' => ∃ v : Int, e = .returned (.int .i64 v) ∧ 0 ≤ v ∧ v < k ∧ Below w.heap.size w w') := by
  go_enter Try.func12, Try.ntmps12
  go_wp2_with fail
  refine (l00From_any A n c bs w hn hr).mono ?_
  rintro e w1 ⟨g, rfl, hg, s1, hb1⟩
  go_wp2_with fail
  refine (pick_any g 0 m k w1 s1 (by omega) hm hk).mono ?_
  rintro e w2 ⟨v, rfl, v0, v1, s2, g2⟩
  go_wp2_with fail
  go_ret
  exact ⟨v, rfl, v0, v1, hb1.grown g2 hb1.size (fun k e => by injection e with e; omega)⟩
/-- the text of one letter -/
def lt1 (l : Nat) : ByteArray := ⟨#[UInt8.ofNat (97 + l)]⟩
set_option maxHeartbeats 1000000 in
theorem text_any (g K X : Nat) (ts : List ByteArray) (n : Nat) (w : World) (h : Src w g K) (hK : K ≤ 10000000) (hX : Blk w X 9 (ts.map Value.string).toArray) (hl : ts.length = n) (h0 : 0 < n) (h1 : n ≤ 200) (hg : g < X) :
    Calls Try.prog 34 #[.pointer (some ⟨g, 0, none⟩), .slice (some ⟨X, 0, none⟩) n n] w (fun e w' => ∃ s : ByteArray, s ∈ ts ∧ e = .returned (.string s) ∧ Src w' g (K + 2) ∧ w.grownBy w' (some g)) := by
  have HX := Lib.hid hX; clear hX
  have HL := Lib.hid hl; clear hl
  go_enter Try.func34, Try.ntmps34
  go_wp2_with fail
  refine (pick_any g K n n w h (by omega) (by omega) (by omega)).mono ?_
  rintro e w1 ⟨v, rfl, v0, v1, s1, g1⟩
  obtain ⟨k, rfl⟩ := Int.eq_ofNat_of_zero_le v0
  have hk : k < ts.length := by rw [HL.out]; omega
  have c0 := (HX.out.grown g1 (by intro e; injection e with e; omega)).cell k
  rw [show (ts.map Value.string).toArray[k]? = some (.string ts[k]) by simp [List.getElem?_eq_getElem hk]] at c0
  have k0 : (0 : Int) ≤ (k : Int) := by omega
  have k1 : (k : Int) < (n : Int) := v1
  go_wp2_with fail
  go_ret
  exact ⟨ts[k], List.getElem_mem hk, rfl, s1, g1⟩
set_option maxHeartbeats 1000000 in
theorem p6Letter_any (A : Option Addr) (n c : Nat) (bs : List UInt8) (w : World) (hn : n ≤ 4096) (hr : Rd w w.heap.size A n 1 byteE bs) :
    Calls Try.prog 8 #[.slice A n c] w (fun e w' => ∃ l : Nat, l < 4 ∧ e = .returned (.string (lt1 l)) ∧ Below w.heap.size w w') := by
  go_enter Try.func8, Try.ntmps8
  go_wp2_with fail
  refine (l00From_any A n c bs w hn hr).mono ?_
  rintro e w1 ⟨g, rfl, hg, s1, hb1⟩
  have hg1 := s1.lt
  go_wp2_with fail
  refine (text_any g 0 w1.heap.size [⟨#[97]⟩, ⟨#[97]⟩, ⟨#[98]⟩, ⟨#[98]⟩, ⟨#[99]⟩, ⟨#[100]⟩] 6 _ (s1.next ((Below.refl _ _).alloc (Nat.le_refl _) _)) (by omega) (Blk.new _ _ _) rfl (by omega) (by omega) hg1).mono ?_
  rintro e w2 ⟨s, hs, rfl, s2, g2⟩
  go_wp2_with fail
  go_ret
  have hb2 := (hb1.alloc hb1.size _).grown g2 (by have := hb1.size; simp; omega) (fun k e => by injection e with e; omega)
  simp only [List.mem_cons, List.not_mem_nil, or_false] at hs
  rcases hs with rfl | rfl | rfl | rfl | rfl | rfl
  · exact ⟨0, by omega, rfl, hb2⟩
  · exact ⟨0, by omega, rfl, hb2⟩
  · exact ⟨1, by omega, rfl, hb2⟩
  · exact ⟨1, by omega, rfl, hb2⟩
  · exact ⟨2, by omega, rfl, hb2⟩
  · exact ⟨3, by omega, rfl, hb2⟩
end Go.Proofs.Ytecnkmndmnefdaa


/-
  How often letters occur, and the length of a word: on both sides.
-/
namespace Go.Proofs.Ytecnkmndmnefdaa
open Go.RowKit

def ct4 (u : List Nat) : List Int := (List.range 4).map fun l => cn l u
theorem ct4_len (u : List Nat) : (ct4 u).length = 4 := rfl
theorem ct4_at (u : List Nat) {l : Nat} (h : l < 4) : (ct4 u).getD l 0 = cn l u := by
  unfold ct4
  rw [List.getD_eq_getElem?_getD, List.getElem?_map, List.getElem?_range h]; rfl
theorem lcL_len (rs : List Fac) (i : Nat) : (lcL rs i).length = 4 := rfl
theorem lcL_at (rs : List Fac) (i : Nat) {l : Nat} (h : l < 4) : (lcL rs i).getD l 0 = sumTo (fun j => (usesOf rs).getD j 0 * lcD rs l j) i := by
  unfold lcL
  rw [List.getD_eq_getElem?_getD, List.getElem?_map, List.getElem?_range h]; rfl
theorem lcL_pair {rs : List Fac} {i : Nat} {x : Fac} (hx : rs[i]? = some x) (h0 : x.l.size = 0) : lcL rs (i + 1) = lcL rs i := by
  unfold lcL
  refine List.map_congr_left fun l _ => ?_
  show sumTo _ i + (usesOf rs).getD i 0 * lcD rs l i = _
  unfold lcD
  rw [fac_getD hx, if_pos h0]; simp
theorem lcL_let {rs : List Fac} {i l : Nat} {x : Fac} (hx : rs[i]? = some x) (h0 : x.l.size ≠ 0) (hl : letN x.l = l) (h4 : l < 4) : lcL rs (i + 1) = (lcL rs i).set l ((lcL rs i).getD l 0 + (usesOf rs).getD i 0) := by
  apply List.ext_getElem?
  intro j
  have e : ∀ j, sumTo (fun k => (usesOf rs).getD k 0 * lcD rs j k) (i + 1) = sumTo (fun k => (usesOf rs).getD k 0 * lcD rs j k) i + if j = l then (usesOf rs).getD i 0 else 0 := fun j => by
    show sumTo _ i + (usesOf rs).getD i 0 * lcD rs j i = _
    unfold lcD
    rw [fac_getD hx, if_neg h0, hl]
    by_cases h : j = l
    · rw [if_pos h.symm, if_pos h]; simp
    · rw [if_neg (fun e => h e.symm), if_neg h]; simp
  rw [List.getElem?_set, lcL_at rs i h4]
  by_cases hj : l = j
  · subst hj
    rw [if_pos rfl, if_pos (by rw [lcL_len]; exact h4)]
    unfold lcL
    rw [List.getElem?_map, List.getElem?_range h4]
    simp only [Option.map_some]
    rw [e, if_pos rfl]
  · rw [if_neg hj]
    unfold lcL
    rw [List.getElem?_map, List.getElem?_map]
    by_cases h4j : j < 4
    · rw [List.getElem?_range h4j]
      simp only [Option.map_some]
      rw [e, if_neg (fun q => hj q.symm)]; simp
    · rw [List.getElem?_eq_none (by simp; omega)]; rfl
theorem lc_b {rs : List Fac} {ls : List Int} (hls : gLens rs [] = some ls) (hll : ls.length = rs.length) (h0 : 0 < rs.length) {l : Nat} (h4 : l < 4) : ∀ i, i ≤ rs.length → 0 ≤ (lcL rs i).getD l 0 ∧ (lcL rs i).getD l 0 ≤ 1000000000000000 := by
  intro i hi
  have U := uses_inv hls hll h0
  have nn : ∀ j, 0 ≤ (usesOf rs).getD j 0 * lcD rs l j := fun j => Int.mul_nonneg (U.nn j) (by unfold lcD; split <;> (try split) <;> omega)
  have mono : ∀ d i, sumTo (fun j => (usesOf rs).getD j 0 * lcD rs l j) i ≤ sumTo (fun j => (usesOf rs).getD j 0 * lcD rs l j) (i + d) := by
    intro d
    induction d with
    | zero => intro i; exact Int.le_refl _
    | succ d ih =>
      intro i
      have h1 := ih i
      have h2 : sumTo (fun j => (usesOf rs).getD j 0 * lcD rs l j) (i + (d + 1)) = sumTo (fun j => (usesOf rs).getD j 0 * lcD rs l j) (i + d) + (usesOf rs).getD (i + d) 0 * lcD rs l (i + d) := rfl
      have := nn (i + d)
      omega
  have a0 := mono i 0
  have a1 := mono (rs.length - i) i
  rw [show i + (rs.length - i) = rs.length by omega] at a1
  rw [Nat.zero_add] at a0
  have e0 : sumTo (fun j => (usesOf rs).getD j 0 * lcD rs l j) 0 = 0 := rfl
  have e1 := lcL_at rs rs.length h4
  rw [lcL_all (wf_of hls)] at e1
  have e2 : ((List.range 4).map fun l => cn l (wdN rs)).getD l 0 = cn l (wdN rs) := ct4_at (wdN rs) h4
  rw [e2] at e1
  have := cn_le l (wdN rs)
  have := lens_last_le hls h0 hll
  have := last_word hls
  rw [lcL_at rs i h4]
  omega
/-- four numbers and the code 0 -/
def Ret4 (w : World) (xs : List Int) (e : Ending) (w' : World) : Prop := ∃ b, e = .returned (.tuple #[.slice (some ⟨b, 0, none⟩) 4 4, .int .i64 0]) ∧ w.heap.size ≤ b ∧ Blk w' b 2 (intA xs) ∧ Below w.heap.size w w'
/-- letters being counted -/
structure LcW (w W : World) (A : Option Addr) (n c b5 : Nat) (A2 : Option Addr) (c2 : Nat) (us xs : List Int) : Prop where
  g : Blk W w.heap.size 26 #[.slice A n c]
  u : W.ownsRow w.heap.size 2 1 (.slice A2 n c2) n (us.flatMap intE)
  x : Blk W b5 2 (intA xs)
  e : Below w.heap.size w W
  hu : ∀ k, (Value.slice A2 n c2).ownBlock = some k → k < b5
  h5 : w.heap.size < b5
theorem LcW.next {w W W' : World} {A A2 : Option Addr} {n c b5 c2 : Nat} {us xs : List Int} (h : LcW w W A n c b5 A2 c2 us xs) (hb : Below W.heap.size W W') : LcW w W' A n c b5 A2 c2 us xs := ⟨h.g.next hb, own_next h.u hb, h.x.next hb, h.e.trans (hb.mono h.e.size), h.hu, h.h5⟩
theorem LcW.put {w W : World} {A A2 : Option Addr} {n c b5 c2 : Nat} {us xs : List Int} (h : LcW w W A n c b5 A2 c2 us xs) (l : Nat) (v : Int) : LcW w (W.setCell ⟨b5, l, none⟩ (.int .i64 v)) A n c b5 A2 c2 us (xs.set l v) := by
  have hg := gb_set W b5 l (.int .i64 v)
  have h5 := h.h5
  have hx := h.x.set_ l (.int .i64 v)
  rw [intA_set] at hx
  refine ⟨h.g.grown hg (by intro e; injection e with e; omega), h.u.kept hg ?_, hx, h.e.setCell (by show w.heap.size ≤ b5; omega) _, h.hu, h5⟩
  cases hv : (Value.slice A2 n c2).ownBlock with
  | none => exact .inl rfl
  | some q => exact .inr fun e => by have := h.hu q hv; injection e with e; omega
set_option maxHeartbeats 4000000 in
set_option maxRecDepth 100000 in
theorem specLC_any (A : Option Addr) (n c : Nat) (rs : List Fac) (w : World) (hn0 : 0 < n) (hr : Rd w w.heap.size A n 3 Fac.cells rs) (hg : (gOk rs).isSome = true) :
    Calls Try.prog 19 #[.agg #[.slice A n c]] w (Ret4 w (ct4 (wdN rs))) := by
  obtain ⟨ls, hls, hlen, hll⟩ := big_lens hg
  have hl := hr.len
  have hn : n ≤ 400 := by omega
  have HL := Lib.hid hl
  have HR := Lib.hid hr
  have HG := Lib.hid hg
  have HWF := Lib.hid (wf_of hls)
  have HO := Lib.hid (wf_sz HWF.out)
  have HLS := Lib.hid hls
  have HB := Lib.hid (fun l (h4 : l < 4) i hi => lc_b hls hll (by omega) (l := l) h4 i hi)
  have HU := Lib.hid (uses_inv hls hll (by omega))
  have HLL := Lib.hid hll
  have Hall := Lib.hid (lcL_all HWF.out)
  have mkN := fun W => show (Instr.makeSlice 32 (.int .i64 4) (.int .i64 4)).run Try.prog W = .ok (.slice (some ⟨W.heap.size, 0, none⟩) 4 4) (W.alloc (.cells (intA (List.replicate 4 0)) 2)) from makeN 4 W (by omega)
  clear hr hg hls hlen hll hl
  go_enter Try.func19, Try.ntmps19
  go_wp2_with fail
  refine namedC fun w1 H1 => ?_
  have hb1 : Below w.heap.size w w1 := by rw [H1.out]; (repeat first | exact Below.refl _ _ | assumption | refine Below.drew ?_ | refine Below.alloc ?_ (by first | exact Nat.le_refl _ | (simp; done) | omega | (simp; omega)) _ | refine Below.setCell ?_ (by first | exact Nat.le_refl _ | (simp; done) | omega | (simp; omega)) _)
  have BG := Lib.hid (show Blk w1 w.heap.size 26 #[.slice A n c] by rw [H1.out]; exact Blk.new _ _ _)
  clear H1
  refine (l02Ok_any w.heap.size A n c rs w1 BG.out.lt (BG.out.cell 0) (by omega) (HR.out.next hb1) HO.out true HG.out).mono ?_
  rintro e w3 ⟨rfl, hb3⟩
  have b3 := Lib.hid (hb1.trans (hb3.mono hb1.size))
  have BG3 := Lib.hid (BG.out.next hb3)
  clear BG hb1 hb3
  go_wp2_with fail
  refine (specUses_any w.heap.size A n c rs ls w3 BG3.out.lt (BG3.out.cell 0) (by omega) (HR.out.next b3.out) HLS.out HLL.out).mono ?_
  rintro e w4 ⟨A2, c2, rfl, own4, hb4⟩
  have hul : (usesOf rs).length = n := by rw [HU.out.len]; exact HL.out
  rw [hul] at own4 ⊢
  have b4 := Lib.hid (b3.out.trans (hb4.mono b3.out.size))
  have O4 := Lib.hid (own4.mono b3.out.size)
  have BG4 := Lib.hid (BG3.out.next hb4)
  obtain ⟨ub, cp4, hv4, _, hub⟩ := own4.form hn0
  obtain rfl : A2 = some ⟨ub, 0, none⟩ := by injection hv4
  have P5 := Lib.hid (show LcW w (w4.alloc (.cells (intA (List.replicate 4 0)) 2)) A n c w4.heap.size (some ⟨ub, 0, none⟩) c2 (usesOf rs) (lcL rs 0) from
    ⟨BG4.out.alloc _, O4.out.alloc _, Blk.new _ _ _, b4.out.alloc b4.out.size _, fun k e => by have e2 : some ub = some k := e; injection e2 with e2; omega, BG4.out.lt⟩)
  clear own4 hb4 b3 BG3 hv4 O4 BG4 b4
  go_wp2_with fail
  clear mkN
  generalize w4.heap.size = b5 at *
  go_loopw [6] (fun i_ w' => ∃ i : Nat, i_ = .int .i64 i ∧ i ≤ n ∧ Hid (LcW w w' A n c b5 (some ⟨ub, 0, none⟩) c2 (usesOf rs) (lcL rs i))) (fun i_ _ => n - (intOf i_).toNat)
  case atStart => exact ⟨0, rfl, by omega, P5⟩
  case round =>
    obtain ⟨i, rfl, hi, P⟩ := hrel
    clear P5
    have g0 := P.out.g.cell 0
    have gl := P.out.g.lt
    by_cases hlt : i < n
    · obtain ⟨bb, oo, x, rfl, hBr, hx, c0, c1', c2'⟩ := (HR.out.next P.out.e).fac hlt
      have i0 : (0 : Int) ≤ (i : Int) := by omega
      have i1 : (i : Int) < (n : Int) := by omega
      rcases HWF.out i x hx with ⟨h0, a0, a1, b0, b1⟩ | ⟨cc, hcc, hxl, _, _⟩
      · have e0 := size0 h0
        have E := Lib.hid (lcL_pair hx h0)
        clear hx
        go_wp2_with fail
        go_roundw
        case rel => exact ⟨i + 1, by go_num, by omega, Lib.hid (by rw [E.out]; exact P.out)⟩
        case measure => simp [intOf]; omega
      · obtain ⟨hl0, hl1⟩ := letB_num hcc
        rw [hxl] at c0
        have e1 : ¬ ((⟨#[cc]⟩ : ByteArray).toList = []) := by rw [ByteArray.toList_eq]; simp
        have hq0 : (0 : Nat) < ByteArray.size ⟨#[cc]⟩ := Nat.zero_lt_one
        obtain ⟨l, hle⟩ : ∃ l : Nat, cc.toNat - 97 = l := ⟨_, rfl⟩
        have h4 : l < 4 := by omega
        have E := Lib.hid (lcL_let (l := l) hx (by rw [hxl]; show (1 : Nat) ≠ 0; omega) (by rw [hxl, letN_one]; exact hle) h4)
        have ul : IntKind.u8.wrap ((((⟨#[cc]⟩ : ByteArray)[0]'hq0).toNat : Int) - 97) = (l : Int) := by
          rw [show (((⟨#[cc]⟩ : ByteArray)[0]'hq0).toNat : Int) = (cc.toNat : Int) from rfl, IntKind.wrap_u8]; omega
        have l0 : (0 : Int) ≤ (l : Int) := by omega
        have l1 : (l : Int) < 4 := by omega
        have hvb := HB.out l h4 i (by rw [HL.out]; exact hi)
        have hub0 := HU.out.nn i
        have hub1 := HU.out.bd i
        have ucell : wr.cell? ⟨ub, i, none⟩ = some (.int .i64 ((usesOf rs).getD i 0)) := by
          have := own_at (sz := 1) (enc := intE) (fun _ _ => rfl) P.out.u (by rw [HU.out.len]; exact HL.out) 0 i hlt 0 (by omega)
          rw [Nat.mul_one, Nat.add_zero] at this; exact this
        have vcell : wr.cell? ⟨b5, l, none⟩ = some (.int .i64 ((lcL rs i).getD l 0)) := by rw [P.out.x.cell l, intA_at _ h4]
        generalize (lcL rs i).getD l 0 = v at *
        generalize (usesOf rs).getD i 0 = u at *
        have uv : IntKind.i64.wrap (v + u) = v + u := IntWalk.i64_in _ (by omega)
        have f5 := P.out.x.frozen
        have l5 := P.out.x.lt
        clear hx hxl hle hl0 hl1 c1' c2'
        go_upto_region 9 with fail
        refine wp_region_N (fun W => W.cell? ⟨w.heap.size, 0, none⟩ = some (.slice (some ⟨bb, oo, none⟩) n c) ∧ W.cell? ⟨bb, oo + i * 3, none⟩ = some (.string ⟨#[cc]⟩) ∧ W.cell? ⟨ub, i, none⟩ = some (.int .i64 u) ∧ W.cell? ⟨b5, l, none⟩ = some (.int .i64 v)) [17] (by kernel_rfl) ?_
        have hS0 : wr.drew.cell? ⟨w.heap.size, 0, none⟩ = some (.slice (some ⟨bb, oo, none⟩) n c) ∧ wr.drew.cell? ⟨bb, oo + i * 3, none⟩ = some (.string ⟨#[cc]⟩) ∧ wr.drew.cell? ⟨ub, i, none⟩ = some (.int .i64 u) ∧ wr.drew.cell? ⟨b5, l, none⟩ = some (.int .i64 v) := ⟨P.out.g.cell 0, c0, ucell, vcell⟩
        refine wpAnyN_take (i := 0) (v := ?_) rfl (by kernel_rfl) (fun _ _ _ h => h) (by rfl) (fun W hW => ?_) hS0 ?_
        rotate_left
        · obtain ⟨z0, z1, z2, z3⟩ := hW
          go_simp
          try with_reducible rfl
        try simp only [List.getElem_toArray, List.getElem_cons_zero, List.getElem_cons_succ, Act.put, List.setIfInBounds_toArray, List.set_cons_zero, List.set_cons_succ]
        refine wpAnyN_take (i := 1) (v := ?_) rfl (by kernel_rfl) (fun _ _ _ h => h) (by rfl) (fun W hW => ?_) hS0 ?_
        rotate_left
        · obtain ⟨z0, z1, z2, z3⟩ := hW
          go_simp
          try with_reducible rfl
        try simp only [List.getElem_toArray, List.getElem_cons_zero, List.getElem_cons_succ, Act.put, List.setIfInBounds_toArray, List.set_cons_zero, List.set_cons_succ]
        refine wpAnyN_take (i := 2) (v := ?_) rfl (by kernel_rfl) (fun _ _ _ h => h) (by rfl) (fun W hW => ?_) hS0 ?_
        rotate_left
        · obtain ⟨z0, z1, z2, z3⟩ := hW
          go_simp
          try with_reducible rfl
        try simp only [List.getElem_toArray, List.getElem_cons_zero, List.getElem_cons_succ, Act.put, List.setIfInBounds_toArray, List.set_cons_zero, List.set_cons_succ]
        refine wpAnyN_take (i := 3) (v := ?_) rfl (by kernel_rfl) (fun _ _ _ h => h) (by rfl) (fun W hW => ?_) hS0 ?_
        rotate_left
        · obtain ⟨z0, z1, z2, z3⟩ := hW
          go_simp
          try with_reducible rfl
        try simp only [List.getElem_toArray, List.getElem_cons_zero, List.getElem_cons_succ, Act.put, List.setIfInBounds_toArray, List.set_cons_zero, List.set_cons_succ]
        refine wpAnyN_take (i := 4) (v := ?_) rfl (by kernel_rfl) (fun _ _ _ h => h) (by rfl) (fun W hW => ?_) hS0 ?_
        rotate_left
        · obtain ⟨z0, z1, z2, z3⟩ := hW
          go_simp
          try with_reducible rfl
        try simp only [List.getElem_toArray, List.getElem_cons_zero, List.getElem_cons_succ, Act.put, List.setIfInBounds_toArray, List.set_cons_zero, List.set_cons_succ]
        refine wpAnyN_take (i := 5) (v := ?_) rfl (by kernel_rfl) (fun _ _ _ h => h) (by rfl) (fun W hW => ?_) hS0 ?_
        rotate_left
        · obtain ⟨z0, z1, z2, z3⟩ := hW
          go_simp
          try with_reducible rfl
        try simp only [List.getElem_toArray, List.getElem_cons_zero, List.getElem_cons_succ, Act.put, List.setIfInBounds_toArray, List.set_cons_zero, List.set_cons_succ]
        refine wpAnyN_take (i := 6) (v := ?_) rfl (by kernel_rfl) (fun _ _ _ h => h) (by rfl) (fun W hW => ?_) hS0 ?_
        rotate_left
        · obtain ⟨z0, z1, z2, z3⟩ := hW
          go_simp
          try with_reducible rfl
        try simp only [List.getElem_toArray, List.getElem_cons_zero, List.getElem_cons_succ, Act.put, List.setIfInBounds_toArray, List.set_cons_zero, List.set_cons_succ]
        refine wpAnyN_take (i := 7) (v := ?_) rfl (by kernel_rfl) (fun _ _ _ h => h) (by rfl) (fun W hW => ?_) hS0 ?_
        rotate_left
        · obtain ⟨z0, z1, z2, z3⟩ := hW
          go_simp
          try with_reducible rfl
        try simp only [List.getElem_toArray, List.getElem_cons_zero, List.getElem_cons_succ, Act.put, List.setIfInBounds_toArray, List.set_cons_zero, List.set_cons_succ]
        refine wpAnyN_take (i := 8) (v := ?_) rfl (by kernel_rfl) (fun _ _ _ h => h) (by rfl) (fun W hW => ?_) hS0 ?_
        rotate_left
        · obtain ⟨z0, z1, z2, z3⟩ := hW
          go_simp
          try with_reducible rfl
        try simp only [List.getElem_toArray, List.getElem_cons_zero, List.getElem_cons_succ, Act.put, List.setIfInBounds_toArray, List.set_cons_zero, List.set_cons_succ]
        refine wpAnyN_take (i := 9) (v := ?_) rfl (by kernel_rfl) (fun _ _ _ h => h) (by rfl) (fun W hW => ?_) hS0 ?_
        rotate_left
        · obtain ⟨z0, z1, z2, z3⟩ := hW
          go_simp
          try with_reducible rfl
        try simp only [List.getElem_toArray, List.getElem_cons_zero, List.getElem_cons_succ, Act.put, List.setIfInBounds_toArray, List.set_cons_zero, List.set_cons_succ]
        refine wpAnyN_take (i := 10) (v := ?_) rfl (by kernel_rfl) (fun _ _ _ h => h) (by rfl) (fun W hW => ?_) hS0 ?_
        rotate_left
        · obtain ⟨z0, z1, z2, z3⟩ := hW
          go_simp
          try with_reducible rfl
        try simp only [List.getElem_toArray, List.getElem_cons_zero, List.getElem_cons_succ, Act.put, List.setIfInBounds_toArray, List.set_cons_zero, List.set_cons_succ]
        refine wpAnyN_take (i := 11) (v := ?_) rfl (by kernel_rfl) (fun _ _ _ h => h) (by rfl) (fun W hW => ?_) hS0 ?_
        rotate_left
        · obtain ⟨z0, z1, z2, z3⟩ := hW
          go_simp
          try with_reducible rfl
        try simp only [List.getElem_toArray, List.getElem_cons_zero, List.getElem_cons_succ, Act.put, List.setIfInBounds_toArray, List.set_cons_zero, List.set_cons_succ]
        refine wpAnyN_take (i := 12) (v := ?_) rfl (by kernel_rfl) (fun _ _ _ h => h) (by rfl) (fun W hW => ?_) hS0 ?_
        rotate_left
        · obtain ⟨z0, z1, z2, z3⟩ := hW
          go_simp
          try with_reducible rfl
        try simp only [List.getElem_toArray, List.getElem_cons_zero, List.getElem_cons_succ, Act.put, List.setIfInBounds_toArray, List.set_cons_zero, List.set_cons_succ]
        refine wpAnyN_take (i := 13) (v := ?_) rfl (by kernel_rfl) (fun _ _ _ h => h) (by rfl) (fun W hW => ?_) hS0 ?_
        rotate_left
        · obtain ⟨z0, z1, z2, z3⟩ := hW
          go_simp
          try with_reducible rfl
        try simp only [List.getElem_toArray, List.getElem_cons_zero, List.getElem_cons_succ, Act.put, List.setIfInBounds_toArray, List.set_cons_zero, List.set_cons_succ]
        refine wpAnyN_take (i := 14) (v := ?_) rfl (by kernel_rfl) (fun _ _ _ h => h) (by rfl) (fun W hW => ?_) hS0 ?_
        rotate_left
        · obtain ⟨z0, z1, z2, z3⟩ := hW
          go_simp
          try with_reducible rfl
        try simp only [List.getElem_toArray, List.getElem_cons_zero, List.getElem_cons_succ, Act.put, List.setIfInBounds_toArray, List.set_cons_zero, List.set_cons_succ]
        refine wpAnyN_take (i := 15) (v := ?_) rfl (by kernel_rfl) (fun _ _ _ h => h) (by rfl) (fun W hW => ?_) hS0 ?_
        rotate_left
        · obtain ⟨z0, z1, z2, z3⟩ := hW
          go_simp
          try with_reducible rfl
        try simp only [List.getElem_toArray, List.getElem_cons_zero, List.getElem_cons_succ, Act.put, List.setIfInBounds_toArray, List.set_cons_zero, List.set_cons_succ]
        refine wpAnyN_take (i := 16) (v := ?_) rfl (by kernel_rfl) (fun _ _ _ h => h) (by rfl) (fun W hW => ?_) hS0 ?_
        rotate_left
        · obtain ⟨z0, z1, z2, z3⟩ := hW
          go_simp
          try with_reducible rfl
        try simp only [List.getElem_toArray, List.getElem_cons_zero, List.getElem_cons_succ, Act.put, List.setIfInBounds_toArray, List.set_cons_zero, List.set_cons_succ]
        refine wpAnyN_next (i := 17) rfl (by kernel_rfl) (fun K hK => ?_)
        go_simp
        refine hK.out _ _ (fun h => absurd h (by decide)) ?_
        clear hK K hS0
        refine wpAnyN_done (by kernel_rfl) ?_ _
        have Q1 := Lib.hid ((P.out.next (Below.refl _ _).drew).put l (v + u))
        rw [← E.out] at Q1
        go_wp2_with fail
        go_roundw
        case rel => exact ⟨i + 1, by go_num, by omega, Q1⟩
        case measure => simp [intOf]; omega
    · obtain rfl : i = n := by omega
      have hq := P.out.x
      rw [show lcL rs i = ct4 (wdN rs) by rw [← HL.out, Hall.out]; rfl] at hq
      have Hq := Lib.hid hq
      have h5 := P.out.h5
      have he := Lib.hid P.out.e
      go_wp2_with fail
      go_ret2
      exact ⟨b5, rfl, by omega, Hq.out, he.out⟩
theorem lengthOf_any (A : Option Addr) (n c : Nat) (rs : List Fac) (w : World) (hr : Rd w w.heap.size A n 3 Fac.cells rs) (hg : (gOk rs).isSome = true) :
    Calls Try.prog 9 #[.agg #[.slice A n c]] w (Ret (.tuple #[.int .i64 ((wdN rs).length : Int), .int .i64 0]) w) := by
  obtain ⟨ls, hls, hlen, hll⟩ := big_lens hg
  have hl := hr.len
  have hn : n ≤ 400 := by omega
  have HR := Lib.hid hr
  have HG := Lib.hid hg
  have HLS := Lib.hid hls
  have HO := Lib.hid (wf_sz (wf_of hls))
  have hlast := last_word hls
  generalize hv : lastI ls = v at *
  have HV := Lib.hid hv
  rw [← hlast]
  clear hr hg hls hlen hll hl hlast hv
  go_enter Try.func9, Try.ntmps9
  go_wp2_with fail
  refine namedC fun w1 H1 => ?_
  have hb1 : Below w.heap.size w w1 := by rw [H1.out]; (repeat first | exact Below.refl _ _ | assumption | refine Below.drew ?_ | refine Below.alloc ?_ (by first | exact Nat.le_refl _ | (simp; done) | omega | (simp; omega)) _ | refine Below.setCell ?_ (by first | exact Nat.le_refl _ | (simp; done) | omega | (simp; omega)) _)
  have BG := Lib.hid (show Blk w1 w.heap.size 26 #[.slice A n c] by rw [H1.out]; exact Blk.new _ _ _)
  clear H1
  refine (l02Ok_any w.heap.size A n c rs w1 BG.out.lt (BG.out.cell 0) (by omega) (HR.out.next hb1) HO.out true HG.out).mono ?_
  rintro e w3 ⟨rfl, hb3⟩
  have b3 := Lib.hid (hb1.trans (hb3.mono hb1.size))
  have BG3 := Lib.hid (BG.out.next hb3)
  clear BG hb1 hb3
  go_wp2_with fail
  refine (l02Length_any w.heap.size A n c rs w3 BG3.out.lt (BG3.out.cell 0) (by omega) (HR.out.next b3.out) HO.out ls HLS.out).mono ?_
  rintro e w4 ⟨rfl, hb4⟩
  rw [HV.out]
  go_wp2_with fail
  go_ret2
  exact ⟨rfl, b3.out.trans (hb4.mono b3.out.size)⟩
theorem f6length_any (A : Option Addr) (n c : Nat) (rs : List Fac) (w : World) (hr : Rd w w.heap.size A n 3 Fac.cells rs) (hg : (gOk rs).isSome = true) :
    Calls Try.prog 21 #[.agg #[.slice A n c]] w (Ret (.int .i64 ((wdN rs).length : Int)) w) := by
  have HR := Lib.hid hr; clear hr
  have HG := Lib.hid hg; clear hg
  generalize hv : ((wdN rs).length : Int) = v at *
  have HV := Lib.hid hv; clear hv
  go_enter Try.func21, Try.ntmps21
  go_wp2_with fail
  refine (lengthOf_any A n c rs _ (HR.out.next ((Below.refl _ _).alloc (Nat.le_refl _) _)) HG.out).mono ?_
  rintro e w1 ⟨rfl, hb1⟩
  rw [HV.out]
  go_wp2_with fail
  go_ret
  exact ⟨rfl, ((Below.refl _ _).alloc (Nat.le_refl _) _).trans (hb1.mono (by simp))⟩
end Go.Proofs.Ytecnkmndmnefdaa


/-
  How often letters occur: the program's LetterCounts.
-/
namespace Go.Proofs.Ytecnkmndmnefdaa
open Go.RowKit

/-- letters being counted -/
structure LcI (w W : World) (A : Option Addr) (n c b5 : Nat) (A2 : Option Addr) (c2 : Nat) (us xs : List Int) : Prop where
  g : Blk W w.heap.size 26 #[.slice A n c]
  u : W.ownsRow w.heap.size 2 1 (.slice A2 n c2) n (us.flatMap intE)
  x : Blk W b5 2 (intA xs)
  e : Below w.heap.size w W
  hu : (Value.slice A2 n c2).ownBlock ≠ some b5
  h5 : w.heap.size < b5
theorem LcI.next {w W W' : World} {A A2 : Option Addr} {n c b5 c2 : Nat} {us xs : List Int} (h : LcI w W A n c b5 A2 c2 us xs) (hb : Below W.heap.size W W') : LcI w W' A n c b5 A2 c2 us xs := ⟨h.g.next hb, own_next h.u hb, h.x.next hb, h.e.trans (hb.mono h.e.size), h.hu, h.h5⟩
theorem LcI.put {w W : World} {A A2 : Option Addr} {n c b5 c2 : Nat} {us xs : List Int} (h : LcI w W A n c b5 A2 c2 us xs) (l : Nat) (v : Int) : LcI w (W.setCell ⟨b5, l, none⟩ (.int .i64 v)) A n c b5 A2 c2 us (xs.set l v) := by
  have hg := gb_set W b5 l (.int .i64 v)
  have h5 := h.h5
  have hx := h.x.set_ l (.int .i64 v)
  rw [intA_set] at hx
  exact ⟨h.g.grown hg (by intro e; injection e with e; omega), h.u.kept hg (.inr h.hu), hx, h.e.setCell (by show w.heap.size ≤ b5; omega) _, h.hu, h5⟩
set_option maxHeartbeats 4000000 in
set_option maxRecDepth 100000 in
theorem implLC_any (A : Option Addr) (n c : Nat) (rs : List Fac) (w : World) (hn0 : 0 < n) (hr : Rd w w.heap.size A n 3 Fac.cells rs) (hg : (gOk rs).isSome = true) :
    Calls Try.prog 11 #[.agg #[.slice A n c]] w (Ret4 w (ct4 (wdN rs))) := by
  obtain ⟨ls, hls, hlen, hll⟩ := big_lens hg
  have hl := hr.len
  have hn : n ≤ 400 := by omega
  have HL := Lib.hid hl
  have HR := Lib.hid hr
  have HG := Lib.hid hg
  have HWF := Lib.hid (wf_of hls)
  have HO := Lib.hid (wf_sz HWF.out)
  have HLS := Lib.hid hls
  have HB := Lib.hid (fun l (h4 : l < 4) i hi => lc_b hls hll (by omega) (l := l) h4 i hi)
  have HU := Lib.hid (uses_inv hls hll (by omega))
  have HLL := Lib.hid hll
  have Hall := Lib.hid (lcL_all HWF.out)
  obtain ⟨Z, hZ⟩ : ∃ Z, Z = intA (List.replicate 4 0) := ⟨_, rfl⟩
  have mkN := fun W => show (Instr.makeSlice 32 (.int .i64 4) (.int .i64 4)).run Try.prog W = .ok (.slice (some ⟨W.heap.size, 0, none⟩) 4 4) (W.alloc (.cells Z 2)) from hZ ▸ makeN 4 W (by omega)
  have HZ := Lib.hid hZ
  clear hZ
  clear hr hg hls hlen hll hl
  go_enter Try.func11, Try.ntmps11
  go_wp2_with fail
  refine namedC fun w1 H1 => ?_
  have hb1 : Below w.heap.size w w1 := by rw [H1.out]; (repeat first | exact Below.refl _ _ | assumption | refine Below.drew ?_ | refine Below.alloc ?_ (by first | exact Nat.le_refl _ | (simp; done) | omega | (simp; omega)) _ | refine Below.setCell ?_ (by first | exact Nat.le_refl _ | (simp; done) | omega | (simp; omega)) _)
  have BG := Lib.hid (show Blk w1 w.heap.size 26 #[.slice A n c] by rw [H1.out]; exact Blk.new _ _ _)
  clear H1
  refine (validG_any A n c rs w1 (by omega) (HR.out.next hb1) HO.out true HG.out).mono ?_
  rintro e w3 ⟨rfl, hb3⟩
  have b3 := Lib.hid (hb1.trans (hb3.mono hb1.size))
  have BG3 := Lib.hid (BG.out.next hb3)
  have g3 : w3.cell? ⟨w.heap.size, 0, none⟩ = some (.slice A n c) := BG3.out.cell 0
  have ga := Lib.hid (BG3.out.alloc (.cells Z 2))
  have g4 : (w3.alloc (.cells Z 2)).cell? ⟨w.heap.size, 0, none⟩ = some (.slice A n c) := ga.out.cell 0
  clear BG hb1 hb3
  go_wp2_with fail
  refine (implUses_any A n c rs ls _ (by omega) (HR.out.next (b3.out.alloc b3.out.size _)) HLS.out HLL.out).mono ?_
  rintro e w4 ⟨A2, c2, rfl, own4, hb4⟩
  have hul : (usesOf rs).length = n := by rw [HU.out.len]; exact HL.out
  rw [hul] at own4 ⊢
  have b4 := Lib.hid ((b3.out.alloc b3.out.size _).trans (hb4.mono (b3.out.alloc b3.out.size _).size))
  obtain ⟨ub, cp4, hv4, _, hub⟩ := own4.form hn0
  obtain rfl : A2 = some ⟨ub, 0, none⟩ := by injection hv4
  have hub2 := own_ge own4 ub rfl
  have P5 := Lib.hid (show LcI w w4 A n c w3.heap.size (some ⟨ub, 0, none⟩) c2 (usesOf rs) (lcL rs 0) from
    ⟨ga.out.next hb4, own4.mono (b3.out.alloc b3.out.size _).size, (show Blk (w3.alloc (.cells Z 2)) w3.heap.size 2 (intA (lcL rs 0)) by rw [HZ.out]; exact Blk.new _ _ _).next hb4, b4.out, fun e => by have e2 : some ub = some w3.heap.size := e; injection e2 with e2; simp at hub2; omega, BG3.out.lt⟩)
  clear own4 hb4 b3 BG3 hv4 ga g3 g4 b4 hub2
  go_wp2_with fail
  clear mkN
  generalize w3.heap.size = b5 at *
  go_loopw [15] (fun i_ w' => ∃ i : Nat, i_ = .int .i64 i ∧ i ≤ n ∧ Hid (LcI w w' A n c b5 (some ⟨ub, 0, none⟩) c2 (usesOf rs) (lcL rs i))) (fun i_ _ => n - (intOf i_).toNat)
  case atStart => exact ⟨0, rfl, by omega, P5⟩
  case round =>
    obtain ⟨i, rfl, hi, P⟩ := hrel
    clear P5
    have g0 : wr.cell? ⟨w.heap.size, 0, none⟩ = some (.slice A n c) := P.out.g.cell 0
    have gl := P.out.g.lt
    by_cases hlt : i < n
    · obtain ⟨bb, oo, x, rfl, hBr, hx, c0, c1', c2'⟩ := (HR.out.next P.out.e).fac hlt
      have i0 : (0 : Int) ≤ (i : Int) := by omega
      have i1 : (i : Int) < (n : Int) := by omega
      have ucell : wr.cell? ⟨ub, i, none⟩ = some (.int .i64 ((usesOf rs).getD i 0)) := by
        have := own_at (sz := 1) (enc := intE) (fun _ _ => rfl) P.out.u (by rw [HU.out.len]; exact HL.out) 0 i hlt 0 (by omega)
        rw [Nat.mul_one, Nat.add_zero] at this; exact this
      rcases HWF.out i x hx with ⟨h0, a0, a1, b0, b1⟩ | ⟨cc, hcc, hxl, hxz⟩
      · have E := Lib.hid (lcL_pair hx h0)
        generalize (usesOf rs).getD i 0 = u at ucell
        clear hx
        go_wp2_with fail
        refine namedC fun w5 H5 => ?_
        have hb5 : Below wr.heap.size wr w5 := by rw [H5.out]; (repeat first | exact Below.refl _ _ | assumption | refine Below.drew ?_ | refine Below.alloc ?_ (by first | exact Nat.le_refl _ | (simp; done) | omega | (simp; omega)) _ | refine Below.setCell ?_ (by first | exact Nat.le_refl _ | (simp; done) | omega | (simp; omega)) _)
        clear H5
        refine (isPair_any x true _ (by simpa [isP] using h0)).mono ?_
        rintro e w6 ⟨rfl, hb6⟩
        have Q1 := Lib.hid (P.out.next (hb5.trans (hb6.mono hb5.size)))
        rw [← E.out] at Q1
        clear hb5 hb6
        go_wp2_with fail
        go_roundw
        case rel => exact ⟨i + 1, by go_num, by omega, Q1⟩
        case measure => simp [intOf]; omega
      · obtain ⟨hl0, hl1⟩ := letB_num hcc
        obtain ⟨xl, xa, xb⟩ := x
        have hxl' : xl = ⟨#[cc]⟩ := hxl
        obtain ⟨hxa, hxb⟩ : xa = 0 ∧ xb = 0 := hxz
        subst hxl' hxa hxb
        have c0' : wr.cell? ⟨bb, oo + i * 3, none⟩ = some (.string ⟨#[cc]⟩) := c0
        have c1'' : wr.cell? ⟨bb, oo + i * 3 + 1, none⟩ = some (.int .i64 0) := c1'
        have c2'' : wr.cell? ⟨bb, oo + i * 3 + 2, none⟩ = some (.int .i64 0) := c2'
        have hq0 : (0 : Nat) < ByteArray.size ⟨#[cc]⟩ := Nat.zero_lt_one
        obtain ⟨l, hle⟩ : ∃ l : Nat, cc.toNat - 97 = l := ⟨_, rfl⟩
        have h4 : l < 4 := by omega
        have E := Lib.hid (lcL_let (l := l) hx (show (1 : Nat) ≠ 0 by omega) (by show letN ⟨#[cc]⟩ = l; rw [letN_one]; exact hle) h4)
        have ul : IntKind.u8.wrap ((((⟨#[cc]⟩ : ByteArray)[0]'hq0).toNat : Int) - 97) = (l : Int) := by
          rw [show (((⟨#[cc]⟩ : ByteArray)[0]'hq0).toNat : Int) = (cc.toNat : Int) from rfl, IntKind.wrap_u8]; omega
        have l0 : (0 : Int) ≤ (l : Int) := by omega
        have l1 : (l : Int) < 4 := by omega
        have hvb := HB.out l h4 i (by rw [HL.out]; exact hi)
        have hub0 := HU.out.nn i
        have hub1 := HU.out.bd i
        have vcell : wr.cell? ⟨b5, l, none⟩ = some (.int .i64 ((lcL rs i).getD l 0)) := by rw [P.out.x.cell l, intA_at _ h4]
        generalize (lcL rs i).getD l 0 = v at *
        generalize (usesOf rs).getD i 0 = u at *
        have uv : IntKind.i64.wrap (v + u) = v + u := IntWalk.i64_in _ (by omega)
        have l5 := P.out.x.lt
        clear hx hle hl0 hl1 c0 c1' c2' hxl
        go_wp2_with fail
        refine namedC fun w5 H5 => ?_
        have hb5 : Below wr.heap.size wr w5 := by rw [H5.out]; (repeat first | exact Below.refl _ _ | assumption | refine Below.drew ?_ | refine Below.alloc ?_ (by first | exact Nat.le_refl _ | (simp; done) | omega | (simp; omega)) _ | refine Below.setCell ?_ (by first | exact Nat.le_refl _ | (simp; done) | omega | (simp; omega)) _)
        have BX := Lib.hid (show Blk w5 wr.heap.size 69 #[.string ⟨#[cc]⟩, .int .i64 0, .int .i64 0] by rw [H5.out]; exact Blk.new _ _ _)
        clear H5
        refine (isPair_any ⟨⟨#[cc]⟩, 0, 0⟩ false _ (decide_eq_false (show ¬ (1 : Nat) = 0 by omega))).mono ?_
        rintro e w6 ⟨rfl, hb6⟩
        have b6 := Lib.hid (hb5.trans (hb6.mono hb5.size))
        have P6 := Lib.hid (P.out.next b6.out)
        have x0 : w6.cell? ⟨wr.heap.size, 0, none⟩ = some (.string ⟨#[cc]⟩) := (BX.out.next hb6).cell 0
        have v6 : w6.cell? ⟨b5, l, none⟩ = some (.int .i64 v) := (b6.out.cell (p := ⟨b5, l, none⟩) l5).trans vcell
        have f5 := P6.out.x.frozen
        have l6 := P6.out.x.lt
        clear hb5 hb6 vcell c0' c1'' c2'' ucell g0 BX
        have Q1 := Lib.hid (P6.out.put l (v + u))
        rw [← E.out] at Q1
        go_wp2_with fail
        go_roundw
        case rel => exact ⟨i + 1, by go_num, by omega, Q1⟩
        case measure => simp [intOf]; omega
    · obtain rfl : i = n := by omega
      have hq := P.out.x
      rw [show lcL rs i = ct4 (wdN rs) by rw [← HL.out, Hall.out]; rfl] at hq
      have Hq := Lib.hid hq
      have h5 := P.out.h5
      have he := Lib.hid P.out.e
      go_wp2_with fail
      go_ret2
      exact ⟨b5, rfl, by omega, Hq.out, he.out⟩
end Go.Proofs.Ytecnkmndmnefdaa


/-
  Values that refer to memory: what holds of such a value stays where memory only grows.
-/
namespace Go.Proofs.Ytecnkmndmnefdaa
open Go.RowKit

def encV (v : Value) : List Value := [v]
/-- 'Rep w v y': in the world w the slice v holds y; E is the element type of the rows that such values lie in -/
structure RepOk {β : Type} (E : TypeId) (Rep : World → Value → β → Prop) : Prop where
  next : ∀ {w w' : World} {v : Value} {y : β}, Rep w v y → Below w.heap.size w w' → Rep w' v y
  grown : ∀ {w w' : World} {v : Value} {y : β} {g : Nat} {cs : Array Value}, Rep w v y → Blk w g E cs → w.grownBy w' (some g) → Rep w' v y
  sl : ∀ {w : World} {v : Value} {y : β}, Rep w v y → ∃ p n c, v = .slice p n c
theorem RepOk.one {β : Type} {E : TypeId} {Rep : World → Value → β → Prop} (RO : RepOk E Rep) {w : World} {v : Value} {y : β} (h : Rep w v y) : v.oneCell' = true := by
  obtain ⟨p, n, c, rfl⟩ := RO.sl h; rfl
theorem RepOk.next' {β : Type} {E : TypeId} {Rep : World → Value → β → Prop} (RO : RepOk E Rep) {w w' : World} {v : Value} {y : β} (h : Rep w v y) (hb : Below w.heap.size w w') : Rep w' v y := RO.next h hb
/-- a list of such values -/
def Reps {β : Type} (d : β) (Rep : World → Value → β → Prop) (w : World) (vs : List Value) (ys : List β) : Prop := vs.length = ys.length ∧ ∀ i v, vs[i]? = some v → Rep w v (ys.getD i d)
def RetRep {β : Type} (Rep : World → Value → β → Prop) (y : β) (w0 : World) (e : Ending) (w' : World) : Prop := ∃ v, e = .returned v ∧ Rep w' v y ∧ Below w0.heap.size w0 w'
def RetReps {β : Type} (d : β) (E : TypeId) (Rep : World → Value → β → Prop) (ys : List β) (w0 : World) (e : Ending) (w' : World) : Prop :=
  ∃ A c vs, e = .returned (.slice A ys.length c) ∧ w'.ownsRow w0.heap.size E 1 (.slice A ys.length c) ys.length (vs.flatMap encV) ∧ Reps d Rep w' vs ys ∧ Below w0.heap.size w0 w'
section
variable {β : Type} {d : β} {E : TypeId} {Rep : World → Value → β → Prop} {w w' : World} {vs : List Value} {ys : List β}
theorem Reps.next (h : Reps d Rep w vs ys) (RO : RepOk E Rep) (hb : Below w.heap.size w w') : Reps d Rep w' vs ys := ⟨h.1, fun i v hv => RO.next (h.2 i v hv) hb⟩
theorem Reps.at_ (h : Reps d Rep w vs ys) (u : Value) {i : Nat} (hi : i < vs.length) : Rep w (vs.getD i u) (ys.getD i d) := by
  refine h.2 i _ ?_
  rw [List.getD_eq_getElem?_getD, List.getElem?_eq_getElem hi]; rfl
theorem rep_row (RO : RepOk E Rep) {base n c : Nat} {A : Option Addr} {xs : List Value} {v : Value} {y : β} (hO : w.ownsRow base E 1 (.slice A n c) n xs) (h : Rep w v y) (o : Obj) (hg : (w.alloc o).grownBy w' (Value.slice A n c).ownBlock) : Rep w' v y := by
  have h1 : Rep (w.alloc o) v y := RO.next h ((Below.refl _ _).alloc (Nat.le_refl _) o)
  have hO1 := hO.alloc o
  rcases hO1.2 with ⟨hn, _⟩ | ⟨g, cap, cur, hv, _, hh, _⟩
  · rw [hn] at hg
    exact RO.next h1 ⟨hg.os, hg.tape, hg.output, hg.size, fun k hk => hg.block k hk (by simp [Value.ownBlock])⟩
  · rw [hv] at hg
    exact RO.grown h1 (show Blk (w.alloc o) g E cur from hh) hg
theorem Reps.push (h : Reps d Rep w vs ys) (RO : RepOk E Rep) {base n c : Nat} {A : Option Addr} {xs : List Value} {v : Value} {y : β} (hO : w.ownsRow base E 1 (.slice A n c) n xs) (hv : Rep w v y) (o : Obj) (hg : (w.alloc o).grownBy w' (Value.slice A n c).ownBlock) :
    Reps d Rep w' (vs ++ [v]) (ys ++ [y]) := by
  refine ⟨by simp [h.1], fun i u hu => ?_⟩
  by_cases hi : i < vs.length
  · rw [List.getElem?_append_left hi] at hu
    rw [List.getD_eq_getElem?_getD, List.getElem?_append_left (by rw [← h.1]; exact hi), ← List.getD_eq_getElem?_getD]
    exact rep_row RO hO (h.2 i u hu) o hg
  · have hi2 : i = vs.length := by
      have := (List.getElem?_eq_some_iff.1 hu).1
      simp at this; omega
    subst hi2
    rw [List.getElem?_append_right (by omega)] at hu
    obtain rfl : v = u := by simpa using hu
    rw [List.getD_eq_getElem?_getD, List.getElem?_append_right (by rw [h.1]; omega), h.1]
    simpa using rep_row RO hO hv o hg
end
/-- a new slice of numbers -/
def RepI (w : World) (v : Value) (y : List Int) : Prop := ∃ g c cs, v = .slice (some ⟨g, 0, none⟩) y.length c ∧ Blk w g 2 cs ∧ ∀ j, j < y.length → cs[j]? = some (.int .i64 (y.getD j 0))
theorem RepI.rd {w : World} {A : Option Addr} {n c : Nat} {y : List Int} (h : RepI w (.slice A n c) y) : n = y.length ∧ Rd w w.heap.size A n 1 intE y := by
  obtain ⟨g, c', cs, e, hB, hc⟩ := h
  injection e with e1 e2 e3
  subst e1 e2 e3
  refine ⟨rfl, rfl, fun _ => ⟨g, 0, rfl, hB.lt, fun k x hx j v hv => ?_⟩⟩
  have hk : k < y.length := (List.getElem?_eq_some_iff.1 hx).1
  match j with
  | 0 =>
    obtain rfl : v = .int .i64 x := by simpa [intE] using hv.symm
    have := hc k hk
    rw [List.getD_eq_getElem?_getD, hx] at this
    rw [hB.cell]
    simpa using this
  | j + 1 => simp [intE] at hv
theorem RepI.of_own {w : World} {base c : Nat} {A : Option Addr} {y : List Int} (hy : 0 < y.length) (h : w.ownsRow base 2 1 (.slice A y.length c) y.length (y.flatMap intE)) : RepI w (.slice A y.length c) y := by
  rcases h.2 with ⟨_, h0⟩ | ⟨g, cap, cur, hv, _, hh, _⟩
  · omega
  · injection hv with e1 _ e3
    subst e1 e3
    refine ⟨g, _, cur, rfl, hh, fun j hj => ?_⟩
    have h1 := h.cellAt j (by omega)
    have hB : Blk w g 2 cur := hh
    rw [hB.cell j] at h1
    rw [h1]
    have hx : y[j]? = some (y[j]'hj) := List.getElem?_eq_getElem _
    have h2 := flat_at (enc := intE) (sz := 1) y (fun _ _ => rfl) j _ hx 0 (by omega)
    rw [Nat.mul_one, Nat.add_zero] at h2
    rw [h2, List.getD_eq_getElem?_getD, hx]; rfl
theorem repI_ok {E : TypeId} (hE : E ≠ 2) : RepOk E RepI := by
  refine ⟨fun {w w' v y} h hb => ?_, fun {w w' v y g cs} h hB hg => ?_, fun {w v y} h => ?_⟩
  · obtain ⟨g, c, cs, e, hB, hc⟩ := h
    exact ⟨g, c, cs, e, hB.next hb, hc⟩
  · obtain ⟨g', c, cs', e, hB', hc⟩ := h
    refine ⟨g', c, cs', e, hB'.grown hg (fun e => ?_), hc⟩
    injection e with e
    subst e
    unfold Blk at hB hB'
    rw [hB] at hB'
    injection hB' with q
    injection q with _ q
    exact hE q
  · obtain ⟨g, c, cs, e, _⟩ := h
    exact ⟨_, _, _, e⟩
end Go.Proofs.Ytecnkmndmnefdaa


/-
  impl.folded at []int64: what it makes of a grammar, by the contracts of the two functions that it is handed; each value refers to memory of its own.
-/
namespace Go.Proofs.Ytecnkmndmnefdaa
open Go.RowKit

theorem elemV : Elem Try.prog 75 32 1 24 := Elem.mk' (z := .slice none 0 0) Try.underlying75 (by kernel_rfl) rfl
set_option maxHeartbeats 2000000 in
set_option maxRecDepth 100000 in
theorem foldV_any {β : Type} (d : β) (Rep : World → Value → β → Prop) (RO : RepOk 32 Rep) (fl fp : Nat) (el : EnterOk fl) (ep : EnterOk fp) (cl cp : Array Value) (F : Nat → β) (G : β → β → Fac → β) (z : β) (vz : Value) (A : Option Addr) (n c : Nat) (rs : List Fac) (w : World) (hn : n ≤ 1048576)
    (hr : Rd w w.heap.size A n 3 Fac.cells rs) (hwf : WF rs) (hz : Rep w vz z)
    (hF : ∀ (k : Nat) (r : Fac), rs[k]? = some r → r.l.size ≠ 0 → ∀ w', Below w.heap.size w w' → Calls Try.prog fl (#[.int .i64 (letN r.l : Nat)] ++ cl) w' (RetRep Rep (F (letN r.l)) w'))
    (hG : ∀ (k : Nat) (r : Fac), rs[k]? = some r → r.l.size = 0 → ∀ w' va vb, Below w.heap.size w w' → Rep w' va ((outs d F G rs k).getD r.a.toNat d) → Rep w' vb ((outs d F G rs k).getD r.b.toNat d) →
      Calls Try.prog fp (#[va, vb, r.val] ++ cp) w' (RetRep Rep (G ((outs d F G rs k).getD r.a.toNat d) ((outs d F G rs k).getD r.b.toNat d) r) w')) :
    Calls Try.prog 70 #[.agg #[.slice A n c], vz, .func (.func fl) #[] cl, .func (.func fp) #[] cp] w (RetReps d 32 Rep (foldAll d F G z rs) w) := by
  have hl := Lib.hid hr.len
  have HF := Lib.hid hF; clear hF
  have HZ := Lib.hid hz; clear hz
  unfold EnterOk at el ep
  have HG := Lib.hid hG; clear hG
  have HW := Lib.hid hwf; clear hwf
  go_enter Try.func70, Try.ntmps70
  go_wp2_with fail
  go_loopw [9, 16] (fun o_ i_ w' => ∃ (k : Nat) (A' : Option Addr) (c' : Nat) (vs : List Value), i_ = .int .i64 k ∧ o_ = .slice A' k c' ∧ k ≤ n ∧
      Hid (w'.ownsRow w.heap.size 32 1 (.slice A' k c') k (vs.flatMap encV)) ∧ Hid (Reps d Rep w' vs (outs d F G rs k)) ∧ Below w.heap.size w w') (fun _ i_ _ => n - (intOf i_).toNat)
  case atStart =>
    exact ⟨0, _, 0, [], rfl, rfl, by omega, Lib.hid (by simpa using World.ownsRow_made (base := w.heap.size) (e := 32) (size := 1) (w.alloc (.cells #[.slice A n c] 26)) #[] 0 (by simp) (by unfold maxLen; omega) rfl), Lib.hid ⟨by simp [outs, foldG], by simp⟩, by (repeat first | exact Below.refl _ _ | assumption | refine Below.drew ?_ | refine Below.alloc ?_ (by first | exact Nat.le_refl _ | (simp; done) | omega | (simp; omega)) _ | refine Below.setCell ?_ (by first | exact Nat.le_refl _ | (simp; done) | omega | (simp; omega)) _)⟩
  case round =>
    obtain ⟨k, A', c', vs, rfl, rfl, hk, hown, hrep, hb⟩ := hrel
    by_cases hlt : k < n
    · obtain ⟨b, o, x, rfl, hB, gx, c0, c1, c2⟩ := (hr.next hb).fac hlt
      have Hst := Lib.hid (outs_step d F G gx)
      have Hol := Lib.hid (outs_len d F G rs k (by rw [hl.out]; exact hk))
      have Hvl := Lib.hid (hrep.out.1.trans Hol.out)
      rcases HW.out k x gx with ⟨h0, ha0, ha1, hb0, hb1⟩ | ⟨cc, hcc, hxl, hxa, hxb⟩
      · have hG := HG.out k x gx h0
        have hfs := Lib.hid (show fStep d F G (outs d F G rs k) x = G ((outs d F G rs k).getD x.a.toNat d) ((outs d F G rs k).getD x.b.toNat d) x by unfold fStep; rw [if_pos h0])
        have HG2 := Lib.hid hG; clear hG gx
        go_wp2_with fail
        refine (isPair_any x true _ (by simpa [isP] using h0)).mono ?_
        rintro e w1 ⟨rfl, hb1'⟩
        obtain ⟨d0, d1, d2⟩ := ((Blk.new wr _ _).next hb1').three
        have b1 := (hb.alloc hb.size _).trans (hb1'.mono (by have := hb.size; simp; omega))
        have hz1 : wr.heap.size < w1.heap.size := ((Blk.new wr 69 #[.string x.l, .int .i64 x.a, .int .i64 x.b]).next hb1').lt
        have own1 := Lib.hid (own_next (hown.out.alloc _) hb1')
        have rep1 := Lib.hid (hrep.out.next RO (((Below.refl wr.heap.size wr).alloc (Nat.le_refl _) (.cells #[.string x.l, .int .i64 x.a, .int .i64 x.b] 69)).trans (hb1'.mono (by simp))))
        obtain ⟨g, cap, hv, hg0, hg1⟩ := own1.out.form (by omega)
        obtain rfl : A' = some ⟨g, 0, none⟩ := by injection hv
        clear hv
        have na : x.a.toNat < k := by omega
        have nb : x.b.toNat < k := by omega
        have HE1 := Lib.hid (fun (w' : World) (h : w'.ownsRow w.heap.size 32 1 (.slice (some ⟨g, 0, none⟩) k c') k (vs.flatMap encV)) =>
          show w'.cell? ⟨g, x.a.toNat, none⟩ = some (vs.getD x.a.toNat undef) by simpa [encV] using own_at (enc := encV) (sz := 1) (fun _ _ => rfl) h Hvl.out undef x.a.toNat na 0 Nat.zero_lt_one)
        have HE2 := Lib.hid (fun (w' : World) (h : w'.ownsRow w.heap.size 32 1 (.slice (some ⟨g, 0, none⟩) k c') k (vs.flatMap encV)) =>
          show w'.cell? ⟨g, x.b.toNat, none⟩ = some (vs.getD x.b.toNat undef) by simpa [encV] using own_at (enc := encV) (sz := 1) (fun _ _ => rfl) h Hvl.out undef x.b.toNat nb 0 Nat.zero_lt_one)
        have e1 := HE1.out w1 own1.out
        have e2 := HE2.out w1 own1.out
        have r1 := rep1.out.at_ undef (show x.a.toNat < vs.length by rw [Hvl.out]; exact na)
        have r2 := rep1.out.at_ undef (show x.b.toNat < vs.length by rw [Hvl.out]; exact nb)
        have o1 := RO.one r1
        have o2 := RO.one r2
        have R1 := Lib.hid r1; have R2 := Lib.hid r2; clear r1 r2
        generalize vs.getD x.a.toNat undef = v1 at *
        generalize vs.getD x.b.toNat undef = v2 at *
        have hgw : some wr.heap.size ≠ (Value.slice (some ⟨g, 0, none⟩) k c').ownBlock := by intro e; have h1 : g < wr.heap.size := (hown.out.lt g rfl).2; have h2 : wr.heap.size = g := Option.some.inj e; omega
        clear h0
        have i1 : x.a < (k : Int) := ha1
        have i2 : x.b < (k : Int) := hb1
        obtain ⟨s1, sn1, sc1, rfl⟩ := RO.sl R1.out
        obtain ⟨s2, sn2, sc2, rfl⟩ := RO.sl R2.out
        clear o1 o2
        go_wp2_with fail
        go_region_held3 (fun w' => w'.cell? ⟨wr.heap.size, 0, none⟩ = some (.string x.l) ∧ w'.cell? ⟨wr.heap.size, 1, none⟩ = some (.int .i64 x.a) ∧ w'.cell? ⟨wr.heap.size, 2, none⟩ = some (.int .i64 x.b) ∧ w'.cell? ⟨g, x.a.toNat, none⟩ = some (.slice s1 sn1 sc1) ∧ w'.cell? ⟨g, x.b.toNat, none⟩ = some (.slice s2 sn2 sc2))
          (first | exact ⟨t0, t1, t2, t3, t4⟩ | exact ⟨s0, s1', s2', s3, s4⟩ | go_keep)
          (first
            | (refine (HG2.out _ _ _ b1.drew (RO.next R1.out (Below.refl _ _).drew) (RO.next R2.out (Below.refl _ _).drew)).mono ?_
               rintro e w2 ⟨v3, rfl, rep3, hb2⟩
               obtain ⟨p3, n3, c3, rfl⟩ := RO.sl rep3
               have Rep3 := Lib.hid rep3; clear rep3
               have hz2 : wr.heap.size < w2.heap.size := Nat.lt_of_lt_of_le hz1 hb2.size
               have s0 : w2.cell? ⟨wr.heap.size, 0, none⟩ = some (.string x.l) := (hb2.cell (p := ⟨wr.heap.size, 0, none⟩) hz1).trans d0
               have s1' : w2.cell? ⟨wr.heap.size, 1, none⟩ = some (.int .i64 x.a) := (hb2.cell (p := ⟨wr.heap.size, 1, none⟩) hz1).trans d1
               have s2' : w2.cell? ⟨wr.heap.size, 2, none⟩ = some (.int .i64 x.b) := (hb2.cell (p := ⟨wr.heap.size, 2, none⟩) hz1).trans d2
               have s3 : w2.cell? ⟨g, x.a.toNat, none⟩ = some (.slice s1 sn1 sc1) := (hb2.cell (p := ⟨g, x.a.toNat, none⟩) hg1).trans e1
               have s4 : w2.cell? ⟨g, x.b.toNat, none⟩ = some (.slice s2 sn2 sc2) := (hb2.cell (p := ⟨g, x.b.toNat, none⟩) hg1).trans e2)
            | (refine step_push (by rfl) _ _ _ (by rfl) w.heap.size 32 1 24 elemV encV (some ⟨g, 0, none⟩) k c' vs (by rfl) ((own_next own1.out.drew hb2).alloc _) w2.heap.size (.slice p3 n3 c3) #[.slice p3 n3 c3] 32 (0, 0) (by rfl) (heap_alloc_new _ _) rfl rfl (by simp [encV, Value.oneCell']) (by omega) (by omega) (by unfold maxLen; omega) (Nat.le_trans b1.size (Nat.le_trans hb2.size (by simp))) ?_
               intro A5 c5 w5 own5 hg5 old5
               have t0 : w5.cell? ⟨wr.heap.size, 0, none⟩ = some (.string x.l) := far_alloc hg5 s0 hz2 hgw
               have t1 : w5.cell? ⟨wr.heap.size, 1, none⟩ = some (.int .i64 x.a) := far_alloc hg5 s1' hz2 hgw
               have t2 : w5.cell? ⟨wr.heap.size, 2, none⟩ = some (.int .i64 x.b) := far_alloc hg5 s2' hz2 hgw
               have t3 : w5.cell? ⟨g, x.a.toNat, none⟩ = some (.slice s1 sn1 sc1) := HE1.out w5 old5
               have t4 : w5.cell? ⟨g, x.b.toNat, none⟩ = some (.slice s2 sn2 sc2) := HE2.out w5 old5))
        go_wp2_with fail
        have hb12 := Lib.hid ((Below.refl w1.heap.size w1).drew.trans hb2)
        have own2 := Lib.hid (own_next own1.out hb12.out)
        have Own5 := Lib.hid own5
        go_roundw
        case rel =>
          refine ⟨k + 1, A5, c5, vs ++ [.slice p3 n3 c3], by go_num, rfl, by omega, Own5, Lib.hid ?_, ?_⟩
          · rw [Hst.out, hfs.out]
            exact (rep1.out.next RO hb12.out).push RO own2.out Rep3.out (.cells #[.slice p3 n3 c3] 32) hg5
          · exact ((b1.drew.trans (hb2.mono b1.size)).alloc (Nat.le_trans b1.size hb2.size) _).grown hg5 (Nat.le_trans b1.size (Nat.le_trans hb2.size (by simp))) (own_ge own1.out)
        case measure => simp [intOf]; omega
      · obtain ⟨xl, xa, xb⟩ := x
        simp only at hxl hxa hxb c0 c1 c2
        subst hxl hxa hxb
        obtain ⟨hl0, hl1⟩ := letB_num hcc
        have hF := HF.out k _ gx (by show (1 : Nat) ≠ 0; omega)
        have hfs := Lib.hid (show fStep d F G (outs d F G rs k) ⟨⟨#[cc]⟩, 0, 0⟩ = F (letN ⟨#[cc]⟩) from rfl)
        have hln := Lib.hid (show ((letN ⟨#[cc]⟩ : Nat) : Int) = (cc.toNat : Int) - 97 by rw [letN_one]; omega)
        simp only at hF
        rw [hln.out] at hF
        generalize F (letN ⟨#[cc]⟩) = y at *
        have HF2 := Lib.hid hF; clear hF gx hcc
        go_wp2_with fail
        refine (isPair_any ⟨⟨#[cc]⟩, 0, 0⟩ false _ (decide_eq_false (show ¬ (1 : Nat) = 0 by omega))).mono ?_
        rintro e w1 ⟨rfl, hb1'⟩
        obtain ⟨d0, d1, d2⟩ := ((Blk.new wr _ _).next hb1').three
        have b1 := (hb.alloc hb.size _).trans (hb1'.mono (by have := hb.size; simp; omega))
        have own1 := Lib.hid (own_next (hown.out.alloc _) hb1')
        have rep1 := Lib.hid (hrep.out.next RO (((Below.refl wr.heap.size wr).alloc (Nat.le_refl _) (.cells #[.string ⟨#[cc]⟩, .int .i64 0, .int .i64 0] 69)).trans (hb1'.mono (by simp))))
        go_wp2_with fail
        refine calls_arg (b := (cc.toNat : Int) - 97) (by show ((cc.toNat : Int) - 97) % 256 = _; omega) ?_
        refine (HF2.out _ b1).mono ?_
        rintro e w2 ⟨v3, rfl, rep3, hb2⟩
        obtain ⟨p3, n3, c3, rfl⟩ := RO.sl rep3
        have Rep3 := Lib.hid rep3; clear rep3
        have b2 := b1.trans (hb2.mono b1.size)
        have own2 := Lib.hid (own_next own1.out hb2)
        have rep2 := Lib.hid (rep1.out.next RO hb2)
        go_wp2_with
          (at_builtin
           refine wpList_push (w0 := w) rfl _ _ _ rfl w.heap.size 32 1 24 elemV encV _ k c' vs rfl (own2.out.alloc _) w2.heap.size (.slice p3 n3 c3) #[.slice p3 n3 c3] 32 (0, 0) rfl (heap_alloc_new _ _) rfl rfl (by simp [encV, Value.oneCell']) (by omega) (by omega) (by unfold maxLen; omega) rfl (b2.alloc b2.size _) ?_
           intro A9 c9 w9 own9 hg9 hat9 hb9
           have O9 := Lib.hid own9
           have G9 := Lib.hid hg9
           clear own9 hg9 hat9)
        go_roundw
        case rel =>
          refine ⟨k + 1, A9, c9, vs ++ [.slice p3 n3 c3], by go_num, rfl, by omega, O9, Lib.hid ?_, hb9⟩
          rw [Hst.out, hfs.out]
          exact rep2.out.push RO own2.out Rep3.out _ G9.out
        case measure => simp [intOf]; omega
    · have hkn : k = n := by omega
      have Hall := Lib.hid (outs_all d F G rs k (by rw [hl.out]; omega))
      have Hol := Lib.hid (outs_len d F G rs k (by rw [hl.out]; omega))
      by_cases h0 : k = 0
      · subst h0
        have e0 := Lib.hid (show foldAll d F G z rs = [z] by unfold foldAll; rw [hl.out, if_pos hkn.symm])
        have e1 := Lib.hid (show outs d F G rs 0 = [] by unfold outs; simp [foldG])
        have hvn : vs = [] := List.eq_nil_of_length_eq_zero (hrep.out.1.trans Hol.out)
        subst hvn
        have Hz := Lib.hid (RO.next' HZ.out hb)
        obtain ⟨p3, n3, c3, rfl⟩ := RO.sl HZ.out
        clear hkn
        go_wp2_with
          (at_builtin
           refine wpList_push (w0 := w) rfl _ _ _ rfl w.heap.size 32 1 24 elemV encV _ 0 c' [] rfl (hown.out.alloc _) wr.heap.size (.slice p3 n3 c3) #[.slice p3 n3 c3] 32 (0, 0) rfl (heap_alloc_new _ _) rfl rfl (by simp [encV, Value.oneCell']) (by omega) (by omega) (by unfold maxLen; omega) rfl (hb.alloc hb.size _) ?_
           intro A9 c9 w9 own9 hg9 hat9 hb9
           have O9 := Lib.hid own9
           have G9 := Lib.hid hg9
           clear own9 hg9 hat9)
        go_ret
        rw [e0.out]
        refine ⟨A9, c9, [.slice p3 n3 c3], rfl, O9.out, ?_, hb9⟩
        have hr0 : Reps d Rep wr [] [] := ⟨rfl, by simp⟩
        simpa using hr0.push RO hown.out Hz.out _ G9.out
      · have e0 := Lib.hid (show foldAll d F G z rs = outs d F G rs k by unfold foldAll; rw [hl.out, if_neg (by omega), Hall.out])
        have h1 : ((k : Int) == 0) = false := by simp; omega
        clear h0 hkn
        go_wp2_with fail
        go_ret
        rw [e0.out]
        refine ⟨A', c', vs, ret_slice Hol.out.symm, ?_, hrep.out, hb⟩
        rw [Hol.out]
        exact hown.out
end Go.Proofs.Ytecnkmndmnefdaa


/-
  How often a word is scattered, one behind the other: in the program.
-/
namespace Go.Proofs.Ytecnkmndmnefdaa
open Go.RowKit

def spI (p : ByteArray) (l i : Nat) : Int := if (p.data.toList.getD i 0).toNat - 97 = l then 1 else 0
def spF (p : ByteArray) (l : Nat) : List Int := (List.range p.size).map (spI p l)
def spJ (n : Nat) (x y : List Int) (i : Nat) : Int := x.getD i 0 + y.getD (((i : Int) + x.getD i 0) % (n : Int)).toNat 0
def spG (n : Nat) (x y : List Int) (_ : Fac) : List Int := (List.range n).map (spJ n x y)
abbrev spAll (p : ByteArray) (rs : List Fac) : List (List Int) := full [] (spF p) (spG p.size) rs
def SB (n : Nat) (m : Int) (x : List Int) : Prop := x.length = n ∧ ∀ i, i < n → 0 ≤ x.getD i 0 ∧ x.getD i 0 ≤ m
theorem rng_len {α : Type} (f : Nat → α) (n : Nat) : ((List.range n).map f).length = n := by simp
theorem rng_at (f : Nat → Int) {n i : Nat} (h : i < n) : ((List.range n).map f).getD i 0 = f i := by
  rw [List.getD_eq_getElem?_getD, List.getElem?_map, List.getElem?_range h]; rfl
theorem rng_succ {α : Type} (f : Nat → α) (n : Nat) : (List.range (n + 1)).map f = (List.range n).map f ++ [f n] := by rw [List.range_succ, List.map_append]; rfl
theorem spI_b (p : ByteArray) (l i : Nat) : 0 ≤ spI p l i ∧ spI p l i ≤ 1 := by unfold spI; split <;> omega
theorem sp_mod {n : Nat} (h0 : 0 < n) {i : Nat} {a : Int} : 0 ≤ ((i : Int) + a) % (n : Int) ∧ ((i : Int) + a) % (n : Int) < n := ⟨Int.emod_nonneg _ (by omega), Int.emod_lt_of_pos _ (by omega)⟩
theorem sp_bound {p : ByteArray} {rs : List Fac} {ls : List Int} (hls : gLens rs [] = some ls) (h0 : 0 < p.size) {k : Nat} (hk : k < rs.length) : SB p.size (ls.getD k 0) ((spAll p rs).getD k []) := by
  refine full_ind [] (spF p) (spG p.size) (wf_of hls) (fun k x => SB p.size (ls.getD k 0) x) (fun k r hr h => ?_) (fun k r a b hr h0' h1 h2 h3 h4 ha hb => ?_) k hk
  · have hn : r.l.size ≠ 0 := by
      obtain ⟨c, _, e⟩ := letT_one h
      rw [e]; show (1 : Nat) ≠ 0; omega
    show SB p.size (ls.getD k 0) (spF p _)
    rw [lens_let hls hr hn]
    refine ⟨rng_len _ _, fun i hi => ?_⟩
    unfold spF
    rw [rng_at _ hi]
    exact spI_b _ _ _
  · show SB p.size (ls.getD k 0) (spG p.size a b r)
    rw [lens_pair hls hr h0']
    refine ⟨rng_len _ _, fun i hi => ?_⟩
    unfold spG
    rw [rng_at _ hi]
    have q1 := ha.2 i hi
    have q2 := sp_mod h0 (i := i) (a := a.getD i 0)
    have q3 := hb.2 (((i : Int) + a.getD i 0) % (p.size : Int)).toNat (by omega)
    unfold spJ
    omega
theorem sp_b15 {p : ByteArray} {rs : List Fac} {ls : List Int} (hls : gLens rs [] = some ls) (h0 : 0 < p.size) {k : Nat} (hk : k < rs.length) : SB p.size 1000000000000000 ((spAll p rs).getD k []) := by
  have h := sp_bound hls h0 hk
  have h2 := lens_bound hls hk
  exact ⟨h.1, fun i hi => by have := h.2 i hi; omega⟩

set_option maxHeartbeats 1000000 in
set_option maxRecDepth 100000 in
theorem sp1_any (l nb pb : Nat) (p : ByteArray) (w : World) (hnb : nb < w.heap.size) (hpb : pb < w.heap.size) (dn : w.cell? ⟨nb, 0, none⟩ = some (.int .i64 (p.size : Int))) (dp : w.cell? ⟨pb, 0, none⟩ = some (.string p)) (hp : okW p = true) (hl : l < 4) :
    Calls Try.prog 71 #[.int .i64 (l : Int), .pointer (some ⟨nb, 0, none⟩), .pointer (some ⟨pb, 0, none⟩)] w (RetRep RepI (spF p l) w) := by
  obtain ⟨i0, hi, hz0, hz1, hz2⟩ := info_parts info_i64
  have hps := (okW_b hp).1
  have HP := Lib.hid (okW_b hp).2; clear hp
  have hmk := run_make_rowN (P := Try.prog) 32 2 i0 _ Try.underlying32 hi hz0 .i64 .i64 p.size p.size (Nat.le_refl _) (by rw [hz2]; omega) (by omega)
  rw [hz1] at hmk
  go_enter Try.func71, Try.ntmps71
  go_wp2_with fail
  go_loopw [11] (fun i_ w' => ∃ (k : Nat) (cs : Array Value), i_ = .int .i64 k ∧ k ≤ p.size ∧ Below w.heap.size w w' ∧ Hid (Blk w' w.heap.size 2 cs) ∧ Hid (cs.size = p.size) ∧
      Hid (∀ j, j < p.size → cs[j]? = some (.int .i64 (if j < k then spI p l j else 0)))) (fun i_ _ => p.size - (intOf i_).toNat)
  case atStart =>
    refine ⟨0, _, rfl, by omega, (Below.refl _ _).alloc (Nat.le_refl _) _, Lib.hid (Blk.new _ _ _), Lib.hid (by rw [size_madeCells]), Lib.hid (fun j hj => ?_)⟩
    rw [if_neg (by omega)]
    simpa [Value.cells] using made_at hj
  case round =>
    obtain ⟨k, cs, rfl, hk, hb, hB, hs, hc⟩ := hrel
    have en := (hb.cell (p := ⟨nb, 0, none⟩) hnb).trans dn
    have ep := (hb.cell (p := ⟨pb, 0, none⟩) hpb).trans dp
    have ln : nb < wr.heap.size := by have := hb.size; omega
    have lp : pb < wr.heap.size := by have := hb.size; omega
    by_cases hlt : k < p.size
    · obtain ⟨k0, k1⟩ := letB_num (HP.out k hlt)
      have v1 : IntKind.u8.wrap (((p[k]'hlt).toNat : Int) - 97) = (((p[k]'hlt).toNat - 97 : Nat) : Int) := by show (((p[k]'hlt).toNat : Int) - 97) % 256 = _; omega
      have hsz := hB.out.lt
      have s0 : wr.cell? ⟨w.heap.size, k, none⟩ = some (.int .i64 0) := (hB.out.cell k).trans ((hc.out k hlt).trans (by rw [if_neg (by omega)]))
      have f0 := hB.out.frozen
      have eI := Lib.hid (show spI p l k = if (p[k]'hlt).toNat - 97 = l then 1 else 0 by unfold spI; rw [List.getD_eq_getElem?_getD, at_byte p k hlt]; rfl)
      have hnx := Lib.hid (fun (v : Int) (hv : spI p l k = v) => fillc (f := spI p l) hs.out hlt hc.out v hv)
      generalize hq : (p[k]'hlt).toNat - 97 = q at *
      have hq3 : (q : Int) ≤ 3 := by omega
      clear hq
      by_cases he : q = l
      · rw [if_pos he] at eI
        have hN := Lib.hid (hnx.out 1 eI.out)
        have he1 : ((q : Int) == (l : Int)) = true := by simp; omega
        clear he hnx
        go_wp2_with fail
        go_roundw
        case rel => exact ⟨k + 1, _, by go_num, by omega, hb.setCell (Nat.le_refl _) _, Lib.hid (hB.out.set_ _ _), Lib.hid hN.out.1, Lib.hid hN.out.2⟩
        case measure => simp [intOf]; omega
      · rw [if_neg he] at eI
        have hN := Lib.hid (keepc (f := spI p l) hlt hc.out eI.out)
        have he1 : ((q : Int) == (l : Int)) = false := by simp; omega
        clear he hnx
        go_wp2_with fail
        go_roundw
        case rel => exact ⟨k + 1, cs, by go_num, by omega, hb, hB, hs, hN⟩
        case measure => simp [intOf]; omega
    · have hlen := Lib.hid (show (spF p l).length = p.size from rng_len _ _)
      go_wp2_with fail
      go_ret
      refine ⟨.slice (some ⟨w.heap.size, 0, none⟩) p.size p.size, rfl, ⟨w.heap.size, p.size, cs, by rw [hlen.out], hB.out, fun j hj => ?_⟩, hb⟩
      rw [hlen.out] at hj
      rw [hc.out j hj, if_pos (by omega)]
      unfold spF
      rw [rng_at _ hj]
set_option maxHeartbeats 1000000 in
set_option maxRecDepth 100000 in
theorem sp2_any (x y : List Int) (vx vy : Value) (r : Fac) (nb n : Nat) (w : World) (hnb : nb < w.heap.size) (dn : w.cell? ⟨nb, 0, none⟩ = some (.int .i64 (n : Int))) (h0 : 0 < n) (hn : n ≤ 2000)
    (hx : SB n 1000000000000000 x) (hy : SB n 1000000000000000 y) (rx : RepI w vx x) (ry : RepI w vy y) :
    Calls Try.prog 72 #[vx, vy, r.val, .pointer (some ⟨nb, 0, none⟩)] w (RetRep RepI (spG n x y r) w) := by
  obtain ⟨hxl, hxb⟩ := hx
  obtain ⟨hyl, hyb⟩ := hy
  obtain ⟨A1, n1, c1, rfl⟩ := (repI_ok (E := 32) (by decide)).sl rx
  obtain ⟨A2, n2, c2, rfl⟩ := (repI_ok (E := 32) (by decide)).sl ry
  obtain ⟨e1, r1⟩ := rx.rd
  obtain ⟨e2, r2⟩ := ry.rd
  obtain rfl : n1 = n := e1.trans hxl
  obtain rfl : n2 = n1 := e2.trans hyl
  have X := Lib.hid hxb; have Y := Lib.hid hyb
  have R1 := Lib.hid r1; have R2 := Lib.hid r2
  clear rx ry r1 r2 e1 e2 hxb hyb hxl hyl
  unfold Fac.val
  go_enter Try.func72, Try.ntmps72
  go_wp2_with fail
  go_loopw [8, 14] (fun o_ i_ w' => ∃ (k : Nat) (A' : Option Addr) (c' : Nat), i_ = .int .i64 k ∧ o_ = .slice A' k c' ∧ k ≤ n2 ∧ Below w.heap.size w w' ∧
      Hid (w'.ownsRow w.heap.size 2 1 (.slice A' k c') k (((List.range k).map (spJ n2 x y)).flatMap intE))) (fun _ i_ _ => n2 - (intOf i_).toNat)
  case atStart =>
    exact ⟨0, _, 0, rfl, rfl, by omega, by (repeat first | exact Below.refl _ _ | assumption | refine Below.drew ?_ | refine Below.alloc ?_ (by first | exact Nat.le_refl _ | (simp; done) | omega | (simp; omega)) _ | refine Below.setCell ?_ (by first | exact Nat.le_refl _ | (simp; done) | omega | (simp; omega)) _), Lib.hid (by simpa using World.ownsRow_made (base := w.heap.size) (e := 2) (size := 1) (w.alloc (.cells #[.string r.l, .int .i64 r.a, .int .i64 r.b] 69)) #[] 0 (by simp) (by unfold maxLen; omega) rfl)⟩
  case round =>
    obtain ⟨k, A', c', rfl, rfl, hk, hb, hown⟩ := hrel
    have en := (hb.cell (p := ⟨nb, 0, none⟩) hnb).trans dn
    have ln : nb < wr.heap.size := by have := hb.size; omega
    by_cases hlt : k < n2
    · obtain ⟨p1, o1, rfl, hB1, s1⟩ := (R1.out.next hb).n64 (k := k) hlt
      have q1 := X.out k hlt
      have q2 := sp_mod h0 (i := k) (a := x.getD k 0)
      have eJ := Lib.hid (show spJ n2 x y k = x.getD k 0 + y.getD (((k : Int) + x.getD k 0) % (n2 : Int)).toNat 0 from rfl)
      generalize x.getD k 0 = m at *
      have ht : ((k : Int) + m).tmod (n2 : Int) = ((k : Int) + m) % (n2 : Int) := Int.tmod_eq_emod_of_nonneg (by omega)
      obtain ⟨q20, q21⟩ := q2
      obtain ⟨q10, q11⟩ := q1
      have u1 : IntKind.i64.wrap ((k : Int) + m) = (k : Int) + m := IntWalk.i64_in _ (by omega)
      generalize hq : ((k : Int) + m) % (n2 : Int) = q at *
      obtain ⟨p2, o2, rfl, hB2, s2⟩ := (R2.out.next hb).n64 (k := q.toNat) (by omega)
      obtain ⟨q30, q31⟩ := Y.out q.toNat (by omega)
      generalize y.getD q.toNat 0 = z at *
      go_wp2_with
        (at_builtin
         refine wpList_push (w0 := w) rfl _ _ _ rfl w.heap.size 2 1 8 elem_int intE _ k c' ((List.range k).map (spJ n2 x y)) rfl (hown.out.alloc _) wr.heap.size (m + z) #[.int .i64 (m + z)] 2 (0, 0) rfl (heap_alloc_new _ _) rfl rfl (by simp [intE, Value.oneCell']) (by omega) (by omega) (by unfold maxLen; omega) rfl (hb.alloc hb.size _) ?_
         intro A9 c9 w9 own9 hg9 hat9 hb9
         have O9 := Lib.hid own9
         clear own9 hg9 hat9)
      go_roundw
      case rel =>
        refine ⟨k + 1, A9, c9, by go_num, rfl, by omega, hb9, Lib.hid ?_⟩
        rw [rng_succ, eJ.out]
        exact O9.out
      case measure => simp [intOf]; omega
    · obtain rfl : k = n2 := by omega
      have hlen := Lib.hid (show (spG k x y r).length = k from rng_len _ _)
      go_wp2_with fail
      go_ret
      refine ⟨.slice A' k c', rfl, ?_, hb⟩
      have := RepI.of_own (w := wr) (base := w.heap.size) (A := A') (c := c') (y := spG k x y r) (by rw [hlen.out]; exact h0) (by rw [hlen.out]; exact hown.out)
      rw [hlen.out] at this
      exact this
def spTop (rs : List Fac) (p : ByteArray) : Int := if rs.length = 0 then 0 else ((spAll p rs).getD (rs.length - 1) []).getD 0 0
def spareV (rs : List Fac) (p : ByteArray) : Value :=
  if (gOk rs).isSome = false then tup2 0 1 else if okW p = false then tup2 0 1 else if p.size = 0 then tup2 0 4 else tup2 (spTop rs p / (p.size : Int)) 0
theorem spareV_form (rs : List Fac) (p : ByteArray) : ∃ b k, spareV rs p = .tuple #[.int .i64 b, .int .i64 k] := by
  unfold spareV
  split
  · exact ⟨_, _, rfl⟩
  split
  · exact ⟨_, _, rfl⟩
  split
  · exact ⟨_, _, rfl⟩
  · exact ⟨_, _, rfl⟩
theorem spareV1 {rs : List Fac} {p : ByteArray} (h : (gOk rs).isSome = false) : spareV rs p = tup2 0 1 := by unfold spareV; rw [if_pos h]
theorem spareV2 {rs : List Fac} {p : ByteArray} (h : (gOk rs).isSome = true) (h2 : okW p = false) : spareV rs p = tup2 0 1 := by unfold spareV; rw [if_neg (by rw [h]; decide), if_pos h2]
theorem spareV3 {rs : List Fac} {p : ByteArray} (h : (gOk rs).isSome = true) (h2 : okW p = true) (h3 : p.size = 0) : spareV rs p = tup2 0 4 := by unfold spareV; rw [if_neg (by rw [h]; decide), if_neg (by rw [h2]; decide), if_pos h3]
theorem spareV4 {rs : List Fac} {p : ByteArray} (h : (gOk rs).isSome = true) (h2 : okW p = true) (h3 : p.size ≠ 0) : spareV rs p = tup2 (spTop rs p / (p.size : Int)) 0 := by
  unfold spareV; rw [if_neg (by rw [h]; decide), if_neg (by rw [h2]; decide), if_neg h3]
def zerosI (n : Nat) : List Int := (List.range n).map fun _ => 0
theorem spTop_eq (rs : List Fac) (p : ByteArray) (h0 : p.size ≠ 0) : ((foldAll [] (spF p) (spG p.size) (zerosI p.size) rs).getD ((foldAll [] (spF p) (spG p.size) (zerosI p.size) rs).length - 1) []).getD 0 0 = spTop rs p := by
  rw [foldAll_top]
  unfold spTop
  split
  · exact rng_at _ (by omega)
  · rfl
theorem spTop_b {rs : List Fac} {p : ByteArray} {ls : List Int} (hls : gLens rs [] = some ls) (h0 : 0 < p.size) : 0 ≤ spTop rs p ∧ spTop rs p ≤ 1000000000000000 := by
  unfold spTop
  split
  · omega
  · exact (sp_b15 hls h0 (k := rs.length - 1) (by omega)).2 0 h0
theorem foldAll_SB {rs : List Fac} {p : ByteArray} {ls : List Int} (hls : gLens rs [] = some ls) (h0 : 0 < p.size) : ((foldAll [] (spF p) (spG p.size) (zerosI p.size) rs).getD ((foldAll [] (spF p) (spG p.size) (zerosI p.size) rs).length - 1) []).length = p.size := by
  rw [foldAll_top]
  split
  · exact rng_len _ _
  · exact (sp_b15 hls h0 (k := rs.length - 1) (by omega)).1
theorem topV_any (A : Option Addr) (n c : Nat) (v : Value) (w : World) (hn : n ≤ 1048577) (h0 : 0 < n) (b : Nat) (hA : A = some ⟨b, 0, none⟩) (hb : b < w.heap.size) (hc : w.cell? ⟨b, n - 1, none⟩ = some v) (hv : ∃ p m d, v = .slice p m d) :
    Calls Try.prog 73 #[.slice A n c] w (Ret v w) := by
  subst hA
  obtain ⟨p, m, d, rfl⟩ := hv
  go_enter Try.func73, Try.ntmps73
  go_wp2_with fail
  go_ret
  exact ⟨rfl, Below.refl _ _⟩
theorem size_any (s : ByteArray) (w : World) (hs : s.size ≤ 100000000) : Calls Try.prog 69 #[.string s] w (Ret (.int .i64 (s.size : Int)) w) := by
  go_enter Try.func69, Try.ntmps69
  go_wp2
  go_ret
  exact ⟨rfl, Below.refl _ _⟩
theorem repI_zeros (w : World) (n c : Nat) (h : 0 < n) : RepI (w.alloc (.cells (madeCells (Value.int .i64 0).cells (n * 1)) 2)) (.slice (some ⟨w.heap.size, 0, none⟩) n c) (zerosI n) := by
  refine ⟨w.heap.size, c, _, by rw [show (zerosI n).length = n from rng_len _ _], Blk.new _ _ _, fun j hj => ?_⟩
  rw [show (zerosI n).length = n from rng_len _ _] at hj
  rw [made_at hj, show (zerosI n).getD j 0 = 0 from rng_at _ hj]
set_option maxHeartbeats 2000000 in
set_option maxRecDepth 100000 in
theorem implSpare_any (A : Option Addr) (n c : Nat) (rs : List Fac) (s : ByteArray) (w : World) (hn : n ≤ 1048576) (hr : Rd w w.heap.size A n 3 Fac.cells rs) (hok : ∀ f ∈ rs, f.l.size ≤ maxLen) (hs : s.size ≤ maxLen) :
    Calls Try.prog 25 #[.agg #[.slice A n c], .string s] w (Ret (spareV rs s) w) := by
  have hl := Lib.hid hr.len
  have HR := Lib.hid hr; clear hr
  have HO := Lib.hid hok; clear hok
  rcases hg : (gOk rs).isSome with _ | _
  · have e := Lib.hid (spareV1 (p := s) hg)
    have Hg := Lib.hid hg; clear hg
    go_enter Try.func25, Try.ntmps25
    go_wp2_with fail
    refine namedC fun w0 H0 => ?_
    have hb0 : Below w.heap.size w w0 := by rw [H0.out]; (repeat first | exact Below.refl _ _ | assumption | refine Below.drew ?_ | refine Below.alloc ?_ (by first | exact Nat.le_refl _ | (simp; done) | omega | (simp; omega)) _ | refine Below.setCell ?_ (by first | exact Nat.le_refl _ | (simp; done) | omega | (simp; omega)) _)
    clear H0
    refine (validG_any A n c rs w0 (by omega) (HR.out.next hb0) HO.out false Hg.out).mono ?_
    rintro e1 w1 ⟨rfl, hb1⟩
    go_wp2_with fail
    go_ret2
    exact ⟨by rw [e.out]; rfl, hb0.trans (hb1.mono hb0.size)⟩
  have HG := Lib.hid hg
  obtain ⟨ls, hls⟩ := Option.isSome_iff_exists.1 hg
  have HL := Lib.hid (gOk_lens hls).1
  have hn4 : n ≤ 400 := by have := (gOk_lens hls).2.1; have := hl.out; omega
  clear hg hls
  rcases hp : okW s with _ | _
  · have e := Lib.hid (spareV2 HG.out hp)
    have Hp := Lib.hid hp; clear hp
    go_enter Try.func25, Try.ntmps25
    go_wp2_with fail
    refine namedC fun w0 H0 => ?_
    have hb0 : Below w.heap.size w w0 := by rw [H0.out]; (repeat first | exact Below.refl _ _ | assumption | refine Below.drew ?_ | refine Below.alloc ?_ (by first | exact Nat.le_refl _ | (simp; done) | omega | (simp; omega)) _ | refine Below.setCell ?_ (by first | exact Nat.le_refl _ | (simp; done) | omega | (simp; omega)) _)
    have BP := Lib.hid (show Blk w0 (w.heap.size + 1) 9 #[.string s] by rw [H0.out]; simpa using Blk.new (w.alloc _) _ _)
    clear H0
    refine (validG_any A n c rs w0 (by omega) (HR.out.next hb0) HO.out true HG.out).mono ?_
    rintro e1 w1 ⟨rfl, hb1⟩
    have b1 := hb0.trans (hb1.mono hb0.size)
    have c1 := (BP.out.next hb1).cell 0
    have l1 := (BP.out.next hb1).lt
    go_wp2_with fail
    refine (validWord_any s false w1 hs Hp.out).mono ?_
    rintro e2 w2 ⟨rfl, hb2⟩
    go_wp2_with fail
    go_ret2
    exact ⟨by rw [e.out]; rfl, b1.trans (hb2.mono b1.size)⟩
  have Hp := Lib.hid hp
  have hps := (okW_b hp).1
  clear hp
  by_cases h0 : s.size = 0
  · have e := Lib.hid (spareV3 HG.out Hp.out h0)
    have e0 := size0 h0
    clear h0
    go_enter Try.func25, Try.ntmps25
    go_wp2_with fail
    refine namedC fun w0 H0 => ?_
    have hb0 : Below w.heap.size w w0 := by rw [H0.out]; (repeat first | exact Below.refl _ _ | assumption | refine Below.drew ?_ | refine Below.alloc ?_ (by first | exact Nat.le_refl _ | (simp; done) | omega | (simp; omega)) _ | refine Below.setCell ?_ (by first | exact Nat.le_refl _ | (simp; done) | omega | (simp; omega)) _)
    have BP := Lib.hid (show Blk w0 (w.heap.size + 1) 9 #[.string s] by rw [H0.out]; simpa using Blk.new (w.alloc _) _ _)
    clear H0
    refine (validG_any A n c rs w0 (by omega) (HR.out.next hb0) HO.out true HG.out).mono ?_
    rintro e1 w1 ⟨rfl, hb1⟩
    have b1 := hb0.trans (hb1.mono hb0.size)
    have c1 := (BP.out.next hb1).cell 0
    have l1 := (BP.out.next hb1).lt
    go_wp2_with fail
    refine (validWord_any s true w1 hs Hp.out).mono ?_
    rintro e2 w2 ⟨rfl, hb2⟩
    have c2 := ((BP.out.next hb1).next hb2).cell 0
    have l2 := ((BP.out.next hb1).next hb2).lt
    clear c1 l1
    go_wp2_with fail
    go_ret2
    exact ⟨by rw [e.out]; rfl, b1.trans (hb2.mono b1.size)⟩
  have e := Lib.hid (spareV4 HG.out Hp.out h0)
  have e0 := size1 h0
  have e1 := size1' h0
  have h1 : 0 < s.size := by omega
  have H0' := Lib.hid h0; clear h0
  obtain ⟨i0, hi, hz0, hz1, hz2⟩ := info_parts info_i64
  have hmk := run_make_rowN (P := Try.prog) 32 2 i0 _ Try.underlying32 hi hz0 .i64 .i64 s.size s.size (Nat.le_refl _) (by rw [hz2]; omega) (by omega)
  rw [hz1] at hmk
  have Hmk := Lib.hid hmk; clear hmk
  go_enter Try.func25, Try.ntmps25
  go_wp2_with fail
  refine namedC fun w0 H0 => ?_
  have hb0 : Below w.heap.size w w0 := by rw [H0.out]; (repeat first | exact Below.refl _ _ | assumption | refine Below.drew ?_ | refine Below.alloc ?_ (by first | exact Nat.le_refl _ | (simp; done) | omega | (simp; omega)) _ | refine Below.setCell ?_ (by first | exact Nat.le_refl _ | (simp; done) | omega | (simp; omega)) _)
  have BG := Lib.hid (show Blk w0 w.heap.size 26 #[.slice A n c] by rw [H0.out]; simpa using (Blk.new w _ _).alloc _)
  have BP := Lib.hid (show Blk w0 (w.heap.size + 1) 9 #[.string s] by rw [H0.out]; simpa using Blk.new (w.alloc _) _ _)
  clear H0
  refine (validG_any A n c rs w0 (by omega) (HR.out.next hb0) HO.out true HG.out).mono ?_
  rintro e1 w1 ⟨rfl, hb1⟩
  have b1 := hb0.trans (hb1.mono hb0.size)
  have c1 := (BP.out.next hb1).cell 0
  have l1 := (BP.out.next hb1).lt
  go_wp2_with fail
  refine (validWord_any s true w1 hs Hp.out).mono ?_
  rintro e2 w2 ⟨rfl, hb2⟩
  have b2 := b1.trans (hb2.mono b1.size)
  have BP2 := Lib.hid ((BP.out.next hb1).next hb2)
  have BG2 := Lib.hid ((BG.out.next hb1).next hb2)
  have c2 := BP2.out.cell 0
  have l2 := BP2.out.lt
  clear c1 l1
  go_wp2_with fail
  refine (size_any s w2 (by omega)).mono ?_
  rintro e3 w3 ⟨rfl, hb3⟩
  have b3 := b2.trans (hb3.mono b2.size)
  have BP3 := Lib.hid (BP2.out.next hb3)
  have BG3 := Lib.hid (BG2.out.next hb3)
  clear c2 l2
  have hmk := Hmk.out
  go_wp2_with fail
  refine named fun w4 H4 => ?_
  have hb4 : Below w3.heap.size w3 w4 := by rw [H4.out]; (repeat first | exact Below.refl _ _ | assumption | refine Below.drew ?_ | refine Below.alloc ?_ (by first | exact Nat.le_refl _ | (simp; done) | omega | (simp; omega)) _ | refine Below.setCell ?_ (by first | exact Nat.le_refl _ | (simp; done) | omega | (simp; omega)) _)
  have BN4 := Lib.hid (show Blk w4 w3.heap.size 2 #[.int .i64 (s.size : Int)] by rw [H4.out]; exact Blk.new _ _ _)
  clear H4
  have b4 := b3.trans (hb4.mono b3.size)
  have BP4 := Lib.hid (BP3.out.next hb4)
  have BG4 := Lib.hid (BG3.out.next hb4)
  have c4 := BG4.out.cell 0
  have l4 := BG4.out.lt
  have d4 := BN4.out.cell 0
  have m4 := BN4.out.lt
  go_wp2_with fail
  have hz5 := Lib.hid (show RepI (w4.alloc (Obj.cells (madeCells #[Value.int .i64 0] s.size) 2)).drew (.slice (some ⟨w4.heap.size, 0, none⟩) s.size s.size) (zerosI s.size) from by
    have h := repI_zeros w4 s.size s.size h1
    simp only [Value.cells, Nat.mul_one] at h
    exact h)
  have hb5 := Lib.hid (show Below w4.heap.size w4 (w4.alloc (Obj.cells (madeCells #[Value.int .i64 0] s.size) 2)).drew by (repeat first | exact Below.refl _ _ | assumption | refine Below.drew ?_ | refine Below.alloc ?_ (by first | exact Nat.le_refl _ | (simp; done) | omega | (simp; omega)) _ | refine Below.setCell ?_ (by first | exact Nat.le_refl _ | (simp; done) | omega | (simp; omega)) _))
  have hfold := Lib.hid (fun (w' : World) (hz : RepI w' (.slice (some ⟨w4.heap.size, 0, none⟩) s.size s.size) (zerosI s.size)) (hb' : Below w4.heap.size w4 w') =>
    foldV_any [] RepI (repI_ok (E := 32) (by decide)) 71 72 (enterOk Try.func71 (by kernel_rfl) (by kernel_rfl)) (enterOk Try.func72 (by kernel_rfl) (by kernel_rfl))
      #[.pointer (some ⟨w3.heap.size, 0, none⟩), .pointer (some ⟨w.heap.size + 1, 0, none⟩)] #[.pointer (some ⟨w3.heap.size, 0, none⟩)] (spF s) (spG s.size) (zerosI s.size) (.slice (some ⟨w4.heap.size, 0, none⟩) s.size s.size) A n c rs w' hn
      (HR.out.next (b4.trans (hb'.mono b4.size))) (wf_of HL.out) hz
      (fun k r hr h0 w2 hb2 => by
        have hB := hb'.trans (hb2.mono hb'.size)
        rcases wf_of HL.out k r hr with ⟨h0', _⟩ | ⟨cc, hcc, hxl, _⟩
        · exact absurd h0' h0
        · have h := sp1_any (letN r.l) w3.heap.size (w.heap.size + 1) s w2 (BN4.out.next hB).lt (BP4.out.next hB).lt ((BN4.out.next hB).cell 0) ((BP4.out.next hB).cell 0) Hp.out (letN_lt (by rw [hxl]; exact hcc))
          simpa using h)
      (fun k r hr h0 w2 va vb hb2 ha hb => by
        have hB := hb'.trans (hb2.mono hb'.size)
        have hk : k < rs.length := (List.getElem?_eq_some_iff.1 hr).1
        rcases wf_of HL.out k r hr with ⟨_, ha0, ha1, hb0, hb1⟩ | ⟨cc, _, hxl, _⟩
        · rw [outs_full [] (spF s) (spG s.size) (k := k) (i := r.a.toNat) (by omega) (by omega)] at ha ⊢
          rw [outs_full [] (spF s) (spG s.size) (k := k) (i := r.b.toNat) (by omega) (by omega)] at hb ⊢
          have h := sp2_any _ _ va vb r w3.heap.size s.size w2 (BN4.out.next hB).lt ((BN4.out.next hB).cell 0) h1 hps (sp_b15 HL.out h1 (k := r.a.toNat) (by omega)) (sp_b15 HL.out h1 (k := r.b.toNat) (by omega)) ha hb
          simpa using h
        · rw [hxl] at h0; exact absurd h0 (show ¬ (1 : Nat) = 0 by omega)))
  go_region_held3 (fun w' => w'.cell? ⟨w.heap.size, 0, none⟩ = some (.slice A n c) ∧ w'.cell? ⟨w3.heap.size, 0, none⟩ = some (.int .i64 (s.size : Int)))
    (first | exact ⟨s0, s1⟩ | go_keep)
    (first
      | (go_at_call 70
         refine (hfold.out _ hz5.out hb5.out).mono ?_
         rintro e5 w6 ⟨A6, c6, vs, rfl, own6, reps6, hb6⟩
         have b46 := Lib.hid (hb5.out.trans (hb6.mono hb5.out.size))
         have s0 := (BG4.out.next b46.out).cell 0
         have s1 := (BN4.out.next b46.out).cell 0)
      | fail)
  all_goals
    clear hmk
    have b6 := b4.trans (b46.out.mono b4.size)
    have hL := foldAll_len [] (spF s) (spG s.size) (zerosI s.size) rs
    have hlr := hl.out
    have hR := reps6.at_ undef (show (foldAll [] (spF s) (spG s.size) (zerosI s.size) rs).length - 1 < vs.length by rw [reps6.1]; omega)
    have hvl := Lib.hid reps6.1
    have eT := Lib.hid (spTop_eq rs s H0'.out)
    have eL := Lib.hid (foldAll_SB HL.out h1)
    have eB := spTop_b HL.out h1
    obtain ⟨g, cap, hv, hg0, hg1⟩ := own6.form (by omega)
    obtain rfl : A6 = some ⟨g, 0, none⟩ := by injection hv
    have cv := own_at (enc := encV) (sz := 1) (fun _ _ => rfl) own6 hvl.out undef ((foldAll [] (spF s) (spG s.size) (zerosI s.size) rs).length - 1) (by omega) 0 Nat.zero_lt_one
    obtain ⟨g3, c3, cs3, ev, hB3, hcs3⟩ := hR
    rw [eL.out] at ev hcs3
    have cz := (hB3.cell 0).trans (hcs3 0 h1)
    rw [eT.out] at cz
    have hg3 := hB3.lt
    have cv' : w6.cell? ⟨g, (foldAll [] (spF s) (spG s.size) (zerosI s.size) rs).length - 1, none⟩ = some (.slice (some ⟨g3, 0, none⟩) s.size c3) := by
      rw [← ev]; simpa [encV] using cv
    have hLn : (foldAll [] (spF s) (spG s.size) (zerosI s.size) rs).length ≤ 401 := by omega
    obtain ⟨hL0, _⟩ := hL
    have cn := (BN4.out.next b46.out).cell 0
    have ln := (BN4.out.next b46.out).lt
    clear ev cv hv hcs3 hB3 own6 reps6 hlr s0 s1
    generalize (foldAll [] (spF s) (spG s.size) (zerosI s.size) rs).length = L at *
    obtain ⟨eB0, eB1⟩ := eB
    have ht : (spTop rs s).tdiv (s.size : Int) = spTop rs s / (s.size : Int) := Int.tdiv_eq_ediv_of_nonneg eB0
    have hq := Int.ediv_nonneg eB0 (show (0 : Int) ≤ (s.size : Int) by omega)
    have hq1 := Int.ediv_le_self (b := (s.size : Int)) eB0
    generalize hT : spTop rs s = T at *
    clear hT eL eT hvl cap hg0
    have u1 : IntKind.i64.wrap (T / (s.size : Int)) = T / (s.size : Int) := IntWalk.i64_in _ (by omega)
    go_wp2_with fail
    have hsn : ¬ s.size = 0 := H0'.out
    have hT7 := Lib.hid (fun (w' : World) (h : Below w6.heap.size w6 w') => topV_any (some ⟨g, 0, none⟩) L c6 _ w' (by omega) (by omega) g rfl (Nat.lt_of_lt_of_le hg1 h.size) ((h.cell (p := ⟨g, L - 1, none⟩) hg1).trans cv') ⟨_, _, _, rfl⟩)
    go_region_held3 (fun w' => w'.cell? ⟨g3, 0, none⟩ = some (.int .i64 T) ∧ w'.cell? ⟨w3.heap.size, 0, none⟩ = some (.int .i64 (s.size : Int)))
      (first | exact ⟨t0, t1⟩ | exact ⟨cz, cn⟩ | go_keep)
      (first
        | (go_at_call 73
           refine (hT7.out _ (Below.refl _ _).drew).mono ?_
           rintro e7 w7 ⟨rfl, hb7⟩
           have hb67 : Below w6.heap.size w6 w7 := (Below.refl _ _).drew.trans hb7
           have t0 : w7.cell? ⟨g3, 0, none⟩ = some (.int .i64 T) := (hb67.cell (p := ⟨g3, 0, none⟩) hg3).trans cz
           have t1 : w7.cell? ⟨w3.heap.size, 0, none⟩ = some (.int .i64 (s.size : Int)) := (hb67.cell (p := ⟨w3.heap.size, 0, none⟩) ln).trans cn)
        | fail)
    all_goals
      go_wp2_with fail
      go_ret2
      exact ⟨by rw [e.out]; rfl, b6.trans (hb67.mono b6.size)⟩
end Go.Proofs.Ytecnkmndmnefdaa


/-
  The least places at which a word is scattered: the model.
-/
namespace Go.Proofs.Ytecnkmndmnefdaa
open Go.RowKit

theorem rk_nonneg {v : Nat → Int} {ls : List Int} {rs : List Fac} (hls : gLens rs [] = some ls) (hv : ∀ k, k < rs.length → 0 ≤ v k) : ∀ (f r : Nat) (m : Int), r < rs.length → 0 ≤ rk v ls rs f r m
  | 0, _, _, _ => Int.le_refl _
  | f + 1, r, m, hr => by
    rw [rk]
    by_cases h0 : m ≤ 0
    · rw [if_pos h0]; exact Int.le_refl _
    rw [if_neg h0]
    by_cases h1 : ls.getD r 0 ≤ m
    · rw [if_pos h1]; exact hv r hr
    rw [if_neg h1]
    have hx : rs[r]? = some (rs[r]'hr) := List.getElem?_eq_getElem _
    rw [hx]
    generalize rs[r]'hr = x at *
    have hab : x.a.toNat < rs.length ∧ x.b.toNat < rs.length := by
      rcases wf_of hls r x hx with ⟨_, h4, h5, h6, h7⟩ | ⟨_, _, _, h5, h6⟩
      · omega
      · rw [h5, h6]; show 0 < _ ∧ 0 < _; omega
    have a1 := rk_nonneg hls hv f x.a.toNat m hab.1
    have a2 := rk_nonneg hls hv f x.b.toNat (m - ls.getD x.a.toNat 0) hab.2
    show 0 ≤ rk v ls rs f x.a.toNat m + rk v ls rs f x.b.toNat (m - ls.getD x.a.toNat 0)
    omega
theorem rkV_nonneg {rs : List Fac} {ls : List Int} (hls : gLens rs [] = some ls) (l : Nat) : ∀ k, k < rs.length → 0 ≤ rkV rs l k := fun _ hk => ((cnt_bound hls hk).at_ l).1
theorem rkT_b {rs : List Fac} {ls : List Int} (hls : gLens rs [] = some ls) (l : Nat) {m : Int} (hm : 0 ≤ m) : 0 ≤ rkT (rkV rs l) ls rs m ∧ rkT (rkV rs l) ls rs m ≤ m := by
  unfold rkT
  by_cases h0 : rs.length = 0
  · rw [if_pos h0]; omega
  rw [if_neg h0]
  have a := rk_bound hls (c := 1) (by omega) (rkV_bound hls l) rs.length (rs.length - 1) m (by omega) hm
  exact ⟨rk_nonneg hls (rkV_nonneg hls l) _ _ _ (by omega), by omega⟩
theorem selGo_range {rs : List Fac} {ls : List Int} (hls : gLens rs [] = some ls) {l : Nat} (_hl : l < 4) : ∀ {r f : Nat} {k t : Int}, r < f → r < rs.length → 0 ≤ k → k < ((cnts rs).getD r Q4.nil).at_ l →
    t ≤ selGo (cnts rs) ls rs l f r k t ∧ selGo (cnts rs) ls rs l f r k t < t + ls.getD r 0 := by
  intro r
  induction r using Nat.strongRecOn with
  | ind r ih =>
    intro f k t hf hr h0 h1
    have hx : rs[r]? = some (rs[r]'hr) := List.getElem?_eq_getElem _
    generalize rs[r]'hr = x at *
    have lb := lens_bound hls hr
    by_cases hp : x.l.size = 0
    · rcases wf_of hls r x hx with ⟨_, ha0, ha1, hb0, hb1⟩ | ⟨_, _, hxl, _⟩
      · have e := full_pair Q4.nil cntF cntG (wf_of hls) hx hp
        have e2 : ((cnts rs).getD r Q4.nil).at_ l = ((cnts rs).getD x.a.toNat Q4.nil).at_ l + ((cnts rs).getD x.b.toNat Q4.nil).at_ l := by
          show ((full Q4.nil cntF cntG rs).getD r Q4.nil).at_ l = _
          rw [e, cntG_at]
        have lp := lens_pair hls hx hp
        have lb1 := lens_bound hls (i := x.a.toNat) (by omega)
        have lb2 := lens_bound hls (i := x.b.toNat) (by omega)
        rw [selGo_step hf hx hp]
        by_cases hk : k < ((cnts rs).getD x.a.toNat Q4.nil).at_ l
        · rw [if_pos hk]
          have := ih x.a.toNat (by omega) (f := f - 1) (k := k) (t := t) (by omega) (by omega) h0 hk
          omega
        · rw [if_neg hk]
          have := ih x.b.toNat (by omega) (f := f - 1) (k := k - ((cnts rs).getD x.a.toNat Q4.nil).at_ l) (t := t + ls.getD x.a.toNat 0) (by omega) (by omega) (by omega) (by omega)
          omega
      · rw [hxl] at hp; exact absurd hp (show ¬ (1 : Nat) = 0 by omega)
    · rw [selGo_stop hf hx hp]
      omega
/-- the place of a letter from some place on -/
def nextAt (rs : List Fac) (ls : List Int) (l : Nat) (nx : Int) : Int := selGo (cnts rs) ls rs l rs.length (rs.length - 1) (rkT (rkV rs l) ls rs nx) 0
def embGo (rs : List Fac) (ls : List Int) : List UInt8 → Int → List Int
  | [], _ => []
  | c :: r, nx => if (topQ rs).at_ (c.toNat - 97) ≤ rkT (rkV rs (c.toNat - 97)) ls rs nx then [] else nextAt rs ls (c.toNat - 97) nx :: embGo rs ls r (nextAt rs ls (c.toNat - 97) nx + 1)
theorem nextAt_b {rs : List Fac} {ls : List Int} (hls : gLens rs [] = some ls) (hll : ls.length = rs.length) {l : Nat} (hl : l < 4) {nx : Int} (hn : 0 ≤ nx) (h : ¬ (topQ rs).at_ l ≤ rkT (rkV rs l) ls rs nx) :
    0 ≤ nextAt rs ls l nx ∧ nextAt rs ls l nx + 1 ≤ lastI ls := by
  have hb := rkT_b hls l hn
  have hpos : 0 < rs.length := by
    rcases Nat.eq_zero_or_pos rs.length with h0 | h0
    · exfalso; apply h
      rw [show topQ rs = Q4.nil by unfold topQ; rw [if_pos h0]]
      have : Q4.nil.at_ l = 0 := by
        rcases (show l = 0 ∨ l = 1 ∨ l = 2 ∨ l = 3 by omega) with rfl | rfl | rfl | rfl <;> rfl
      omega
    · exact h0
  have e : topQ rs = (cnts rs).getD (rs.length - 1) Q4.nil := by unfold topQ; rw [if_neg (by omega)]
  rw [e] at h
  have := selGo_range hls hl (r := rs.length - 1) (f := rs.length) (t := 0) (by omega) (by omega) hb.1 (by omega)
  have e2 : lastI ls = ls.getD (rs.length - 1) 0 := by unfold lastI; rw [hll]
  rw [e2]
  unfold nextAt
  omega
def embAll (rs : List Fac) (ls : List Int) (p : ByteArray) : List Int := embGo rs ls p.data.toList 0
theorem embGo_len (rs : List Fac) (ls : List Int) : ∀ (p : List UInt8) (nx : Int), (embGo rs ls p nx).length ≤ p.length
  | [], _ => by simp [embGo]
  | c :: r, nx => by
    unfold embGo
    split
    · simp
    · have := embGo_len rs ls r (nextAt rs ls (c.toNat - 97) nx + 1)
      simp; omega
def embsV (rs : List Fac) (p : ByteArray) : Value := if (gOk rs).isSome = false then tup2 0 1 else if okW p = false then tup2 0 1 else tup2 ((embAll rs ((gLens rs []).getD []) p).length : Int) 0
theorem embsV_form (rs : List Fac) (p : ByteArray) : ∃ b k, embsV rs p = .tuple #[.int .i64 b, .int .i64 k] := by
  unfold embsV
  split
  · exact ⟨_, _, rfl⟩
  split
  · exact ⟨_, _, rfl⟩
  · exact ⟨_, _, rfl⟩
theorem embsV1 {rs : List Fac} {p : ByteArray} (h : (gOk rs).isSome = false) : embsV rs p = tup2 0 1 := by unfold embsV; rw [if_pos h]
theorem embsV2 {rs : List Fac} {p : ByteArray} (h : (gOk rs).isSome = true) (h2 : okW p = false) : embsV rs p = tup2 0 1 := by unfold embsV; rw [if_neg (by rw [h]; decide), if_pos h2]
theorem embsV3 {rs : List Fac} {ls : List Int} {p : ByteArray} (hls : gLens rs [] = some ls) (h : (gOk rs).isSome = true) (h2 : okW p = true) : embsV rs p = tup2 ((embAll rs ls p).length : Int) 0 := by
  unfold embsV; rw [if_neg (by rw [h]; decide), if_neg (by rw [h2]; decide), hls]; rfl
end Go.Proofs.Ytecnkmndmnefdaa


/-
  The least places at which a word is scattered: in the program.
-/
namespace Go.Proofs.Ytecnkmndmnefdaa
open Go.RowKit

set_option maxHeartbeats 4000000 in
set_option maxRecDepth 100000 in
theorem embed_any (A : Option Addr) (n c : Nat) (rs : List Fac) (A2 : Option Addr) (c2 : Nat) (A3 : Option Addr) (N c3 : Nat) (ls : List Int) (p : ByteArray) (w : World) (hn : n ≤ 1048576) (hr : Rd w w.heap.size A n 3 Fac.cells rs)
    (hls : gLens rs [] = some ls) (hll : ls.length = rs.length) (h2 : Rd w w.heap.size A2 n 1 intE ls) (hN : (foldAll Q4.nil cntF cntG Q4.nil rs).length = N) (h3 : Rd w w.heap.size A3 N 4 encQ4 (foldAll Q4.nil cntF cntG Q4.nil rs)) (hp : okW p = true) :
    Calls Try.prog 76 #[.agg #[.slice A n c, .slice A2 n c2, .slice A3 N c3], .string p] w (RetNew w 2 1 intE (embAll rs ls p)) := by
  have hl := Lib.hid hr.len
  have HR := Lib.hid hr; clear hr
  have HL := Lib.hid hls; clear hls
  have Hll := Lib.hid hll; clear hll
  have HN := Lib.hid hN; clear hN
  have r2 := Lib.hid h2; clear h2
  have r3 := Lib.hid h3; clear h3
  have hps := (okW_b hp).1
  have HP := Lib.hid (okW_b hp).2; clear hp
  have hlb := lastI_bound HL.out Hll.out
  have hbl := byte_len p
  go_enter Try.func76, Try.ntmps76
  go_wp2_with fail
  go_loopw [5, 6, 14] (fun o_ n_ i_ w' => ∃ (i : Nat) (nx : Int) (o : List Int) (A' : Option Addr) (c' : Nat), i_ = .int .i64 i ∧ n_ = .int .i64 nx ∧ o_ = .slice A' o.length c' ∧ i ≤ p.size ∧ o.length ≤ i ∧ Below w.heap.size w w' ∧
      Hid (w'.ownsRow w.heap.size 2 1 (.slice A' o.length c') o.length (o.flatMap intE)) ∧ Hid (Blk w' w.heap.size 59 #[.slice A n c, .slice A2 n c2, .slice A3 N c3]) ∧ (0 ≤ nx ∧ nx ≤ lastI ls) ∧
      Hid (embAll rs ls p = o ++ embGo rs ls (p.data.toList.drop i) nx)) (fun _ _ i_ _ => p.size - (intOf i_).toNat)
  case atStart =>
    exact ⟨0, 0, [], _, 0, rfl, rfl, rfl, by omega, by simp, by (repeat first | exact Below.refl _ _ | assumption | refine Below.drew ?_ | refine Below.alloc ?_ (by first | exact Nat.le_refl _ | (simp; done) | omega | (simp; omega)) _ | refine Below.setCell ?_ (by first | exact Nat.le_refl _ | (simp; done) | omega | (simp; omega)) _),
      Lib.hid (by simpa using World.ownsRow_made (base := w.heap.size) (e := 2) (size := 1) (w.alloc (.cells #[.slice A n c, .slice A2 n c2, .slice A3 N c3] 59)) #[] 0 (by simp) (by unfold maxLen; omega) rfl),
      Lib.hid ((Blk.new w _ _).alloc _), by omega, Lib.hid rfl⟩
  case round =>
    obtain ⟨i, nx, o, A', c', rfl, rfl, rfl, hi, hoi, hb, hown, hBC, ⟨n1, n2⟩, H⟩ := hrel
    by_cases hlt : i < p.size
    · have hlet := HP.out i hlt
      obtain ⟨k0, k1⟩ := letB_num hlet
      have H' := Lib.hid (show embAll rs ls p = o ++ (if (topQ rs).at_ ((p[i]'hlt).toNat - 97) ≤ rkT (rkV rs ((p[i]'hlt).toNat - 97)) ls rs nx then [] else nextAt rs ls ((p[i]'hlt).toNat - 97) nx :: embGo rs ls (p.data.toList.drop (i + 1)) (nextAt rs ls ((p[i]'hlt).toNat - 97) nx + 1)) by
        rw [H.out, drop_cons (at_byte p i hlt)]; rfl)
      have v1 : IntKind.u8.wrap (((p[i]'hlt).toNat : Int) - 97) = (((p[i]'hlt).toNat - 97 : Nat) : Int) := by show (((p[i]'hlt).toNat : Int) - 97) % 256 = _; omega
      have hl4 : (p[i]'hlt).toNat - 97 < 4 := by omega
      clear H hlet
      generalize hgl : (p[i]'hlt).toNat - 97 = l at *
      have hd : Below wr.heap.size wr wr.drew := (Below.refl _ _).drew
      have hbd := rkT_b HL.out l n1
      obtain ⟨q0, q1⟩ := hbd
      have hrk := Lib.hid (rank_any A n c rs A2 c2 A3 N c3 ls l nx wr.drew hn (HR.out.next (hb.trans (hd.mono hb.size))) HL.out (r2.out.next (hb.trans (hd.mono hb.size))) HN.out (r3.out.next (hb.trans (hd.mono hb.size))) hl4 n1 (by omega))
      have hsel := Lib.hid (fun (v : Value) hv (w' : World) (hb' : Below wr.heap.size wr w') => sel_any A n c rs A2 c2 A3 N c3 ls l (rkT (rkV rs l) ls rs nx) w' hn (HR.out.next (hb.trans (hb'.mono hb.size))) HL.out (r2.out.next (hb.trans (hb'.mono hb.size))) HN.out (r3.out.next (hb.trans (hb'.mono hb.size))) hl4 q0 (by omega) v hv)
      have hNA := Lib.hid (fun h => nextAt_b HL.out Hll.out hl4 n1 h)
      have enx := Lib.hid (show nextAt rs ls l nx = selGo (cnts rs) ls rs l rs.length (rs.length - 1) (rkT (rkV rs l) ls rs nx) 0 from rfl)
      obtain ⟨d0, d1, d2⟩ := hBC.out.three
      have lc := hBC.out.lt
      rw [enx.out] at H' hNA
      generalize rkT (rkV rs l) ls rs nx = y at *
      generalize selGo (cnts rs) ls rs l rs.length (rs.length - 1) y 0 = z at *
      by_cases hf : (topQ rs).at_ l ≤ y
      · rw [if_pos hf] at H'
        have hs4 := Lib.hid (hsel.out _ (if_pos hf))
        clear hf hsel hNA
        go_wp2_with fail
        go_region_held3 (fun w' => w'.cell? ⟨w.heap.size, 0, none⟩ = some (.slice A n c) ∧ w'.cell? ⟨w.heap.size, 1, none⟩ = some (.slice A2 n c2) ∧ w'.cell? ⟨w.heap.size, 2, none⟩ = some (.slice A3 N c3))
          (first | exact ⟨t0, t1, t2⟩ | exact ⟨s0, s1, s2⟩ | exact ⟨d0, d1, d2⟩ | go_keep)
          (first
            | (go_at_call 39
               refine hrk.out.mono ?_
               rintro e w6 ⟨rfl, hb6⟩
               have b6 : Below wr.heap.size wr w6 := hd.trans (hb6.mono hd.size)
               have s0 : w6.cell? ⟨w.heap.size, 0, none⟩ = some (.slice A n c) := (b6.cell (p := ⟨w.heap.size, 0, none⟩) lc).trans d0
               have s1 : w6.cell? ⟨w.heap.size, 1, none⟩ = some (.slice A2 n c2) := (b6.cell (p := ⟨w.heap.size, 1, none⟩) lc).trans d1
               have s2 : w6.cell? ⟨w.heap.size, 2, none⟩ = some (.slice A3 N c3) := (b6.cell (p := ⟨w.heap.size, 2, none⟩) lc).trans d2)
            | (go_at_call 50
               refine (hs4.out w6 b6).mono ?_
               rintro e w7 ⟨rfl, hb7⟩
               have b7 : Below wr.heap.size wr w7 := b6.trans (hb7.mono b6.size)
               have t0 : w7.cell? ⟨w.heap.size, 0, none⟩ = some (.slice A n c) := (b7.cell (p := ⟨w.heap.size, 0, none⟩) lc).trans d0
               have t1 : w7.cell? ⟨w.heap.size, 1, none⟩ = some (.slice A2 n c2) := (b7.cell (p := ⟨w.heap.size, 1, none⟩) lc).trans d1
               have t2 : w7.cell? ⟨w.heap.size, 2, none⟩ = some (.slice A3 N c3) := (b7.cell (p := ⟨w.heap.size, 2, none⟩) lc).trans d2)
            | fail)
        all_goals
          go_wp2_with fail
          go_ret
          refine ⟨A', c', ret_slice (by rw [H'.out]; simp), ?_, hb.trans (b7.mono hb.size)⟩
          rw [show embAll rs ls p = o by rw [H'.out]; simp]
          exact own_next hown.out b7
      · rw [if_neg hf] at H'
        have hs4 := Lib.hid (hsel.out _ (if_neg hf))
        have hN2 := hNA.out (by simpa using hf)
        obtain ⟨z0, z1⟩ := hN2
        have u1 : IntKind.i64.wrap (z + 1) = z + 1 := IntWalk.i64_in _ (by omega)
        clear hf hsel hNA
        go_wp2_with fail
        go_region_held3 (fun w' => w'.cell? ⟨w.heap.size, 0, none⟩ = some (.slice A n c) ∧ w'.cell? ⟨w.heap.size, 1, none⟩ = some (.slice A2 n c2) ∧ w'.cell? ⟨w.heap.size, 2, none⟩ = some (.slice A3 N c3))
          (first | exact ⟨t0, t1, t2⟩ | exact ⟨s0, s1, s2⟩ | exact ⟨d0, d1, d2⟩ | go_keep)
          (first
            | (go_at_call 39
               refine hrk.out.mono ?_
               rintro e w6 ⟨rfl, hb6⟩
               have b6 : Below wr.heap.size wr w6 := hd.trans (hb6.mono hd.size)
               have s0 : w6.cell? ⟨w.heap.size, 0, none⟩ = some (.slice A n c) := (b6.cell (p := ⟨w.heap.size, 0, none⟩) lc).trans d0
               have s1 : w6.cell? ⟨w.heap.size, 1, none⟩ = some (.slice A2 n c2) := (b6.cell (p := ⟨w.heap.size, 1, none⟩) lc).trans d1
               have s2 : w6.cell? ⟨w.heap.size, 2, none⟩ = some (.slice A3 N c3) := (b6.cell (p := ⟨w.heap.size, 2, none⟩) lc).trans d2)
            | (go_at_call 50
               refine (hs4.out w6 b6).mono ?_
               rintro e w7 ⟨rfl, hb7⟩
               have b7 : Below wr.heap.size wr w7 := b6.trans (hb7.mono b6.size)
               have t0 : w7.cell? ⟨w.heap.size, 0, none⟩ = some (.slice A n c) := (b7.cell (p := ⟨w.heap.size, 0, none⟩) lc).trans d0
               have t1 : w7.cell? ⟨w.heap.size, 1, none⟩ = some (.slice A2 n c2) := (b7.cell (p := ⟨w.heap.size, 1, none⟩) lc).trans d1
               have t2 : w7.cell? ⟨w.heap.size, 2, none⟩ = some (.slice A3 N c3) := (b7.cell (p := ⟨w.heap.size, 2, none⟩) lc).trans d2)
            | fail)
        all_goals
          have hown7 := Lib.hid (own_next hown.out b7)
          have BC7 := Lib.hid (hBC.out.next b7)
          have cb7 := hb.trans (b7.mono hb.size)
          have hne := Lib.hid (show some w.heap.size ≠ (Value.slice A' o.length c').ownBlock from own_blk_ne hown7.out BC7.out (by decide))
          have BC8 := Lib.hid (BC7.out.alloc (.cells #[.int .i64 z] 2))
          have cb8 := cb7.alloc cb7.size (.cells #[.int .i64 z] 2)
          clear s0 s1 s2 t0 t1 t2 d0 d1 d2
          go_wp2_with
            (at_builtin
             refine wpList_push (w0 := w) rfl _ _ _ rfl w.heap.size 2 1 8 elem_int intE _ o.length c' o rfl (hown7.out.alloc _) w7.heap.size z #[.int .i64 z] 2 (0, 0) rfl (heap_alloc_new _ _) rfl rfl (by simp [intE, Value.oneCell']) (by omega) (by omega) (by unfold maxLen; omega) rfl cb8 ?_
             intro A9 c9 w9 own9 hg9 hat9 hb9
             have O9 := Lib.hid own9
             have BC9 := Lib.hid (BC8.out.grown hg9 hne.out)
             clear own9 hat9 hg9)
          clear u1
          go_roundw
          case rel =>
            refine ⟨i + 1, z + 1, o ++ [z], A9, c9, by go_num, rfl, by simp, by omega, by simp; omega, hb9, Lib.hid ?_, BC9, by omega, Lib.hid (by rw [H'.out]; simp)⟩
            simpa using O9.out
          case measure => simp [intOf]; omega
    · have H' := Lib.hid (show embAll rs ls p = o by rw [H.out, List.drop_of_length_le (by rw [hbl]; omega)]; simp [embGo])
      go_wp2_with fail
      go_ret
      refine ⟨A', c', ret_slice (by rw [H'.out]), ?_, hb⟩
      rw [H'.out]
      exact hown.out
end Go.Proofs.Ytecnkmndmnefdaa


/-
  EmbeddedStart in the program and in the reference; embed in the reference.
-/
namespace Go.Proofs.Ytecnkmndmnefdaa
open Go.RowKit

theorem own_block {w w' : World} {base : Nat} {e : TypeId} {sz n : Nat} {v : Value} {xs : List Value} (h : w.ownsRow base e sz v n xs) (hb : ∀ k, v.ownBlock = some k → w'.heap[k]? = w.heap[k]?) : w'.ownsRow base e sz v n xs := by
  refine ⟨h.1, ?_⟩
  rcases h.2 with hn | ⟨g, cap, cur, rfl, hg, hh, r⟩
  · exact .inl hn
  · exact .inr ⟨g, cap, cur, rfl, hg, (hb g rfl).trans hh, r⟩
end Go.Proofs.Ytecnkmndmnefdaa


/-
  EmbedFirst in the program and in the reference.
-/
namespace Go.Proofs.Ytecnkmndmnefdaa
open Go.RowKit

def embFC (rs : List Fac) (p : ByteArray) : Int := if (gOk rs).isSome = false then 1 else if okW p = false then 1 else if (embAll rs ((gLens rs []).getD []) p).length < p.size then 6 else 0
def embFL (rs : List Fac) (p : ByteArray) : List Int := if embFC rs p = 0 then embAll rs ((gLens rs []).getD []) p else []
theorem embF1 {rs : List Fac} {p : ByteArray} (h : (gOk rs).isSome = false) : embFC rs p = 1 ∧ embFL rs p = [] := by
  have e : embFC rs p = 1 := by unfold embFC; rw [if_pos h]
  exact ⟨e, by unfold embFL; rw [if_neg (by rw [e]; decide)]⟩
theorem embF2 {rs : List Fac} {p : ByteArray} (h : (gOk rs).isSome = true) (h2 : okW p = false) : embFC rs p = 1 ∧ embFL rs p = [] := by
  have e : embFC rs p = 1 := by unfold embFC; rw [if_neg (by rw [h]; decide), if_pos h2]
  exact ⟨e, by unfold embFL; rw [if_neg (by rw [e]; decide)]⟩
theorem embF3 {rs : List Fac} {ls : List Int} {p : ByteArray} (hls : gLens rs [] = some ls) (h : (gOk rs).isSome = true) (h2 : okW p = true) (h3 : (embAll rs ls p).length < p.size) : embFC rs p = 6 ∧ embFL rs p = [] := by
  have e : embFC rs p = 6 := by unfold embFC; rw [if_neg (by rw [h]; decide), if_neg (by rw [h2]; decide), hls, if_pos (show (embAll rs ((some ls).getD []) p).length < p.size from h3)]
  exact ⟨e, by unfold embFL; rw [if_neg (by rw [e]; decide)]⟩
theorem embF4 {rs : List Fac} {ls : List Int} {p : ByteArray} (hls : gLens rs [] = some ls) (h : (gOk rs).isSome = true) (h2 : okW p = true) (h3 : ¬ (embAll rs ls p).length < p.size) : embFC rs p = 0 ∧ embFL rs p = embAll rs ls p := by
  have e : embFC rs p = 0 := by unfold embFC; rw [if_neg (by rw [h]; decide), if_neg (by rw [h2]; decide), hls, if_neg (show ¬ (embAll rs ((some ls).getD []) p).length < p.size from h3)]
  exact ⟨e, by unfold embFL; rw [if_pos e, hls]; rfl⟩
theorem embFL_len (rs : List Fac) (p : ByteArray) : (embFL rs p).length ≤ p.size := by
  unfold embFL
  split
  · have := embGo_len rs ((gLens rs []).getD []) p.data.toList 0
    rw [byte_len] at this
    exact this
  · simp
set_option maxHeartbeats 2000000 in
set_option maxRecDepth 100000 in
theorem implEmbF_any (A : Option Addr) (n c : Nat) (rs : List Fac) (s : ByteArray) (w : World) (hn : n ≤ 1048576) (hr : Rd w w.heap.size A n 3 Fac.cells rs) (hok : ∀ f ∈ rs, f.l.size ≤ maxLen) (hs : s.size ≤ maxLen) :
    Calls Try.prog 28 #[.agg #[.slice A n c], .string s] w (RetNewC w 2 1 intE (embFL rs s) (embFC rs s)) := by
  have hl := Lib.hid hr.len
  have HR := Lib.hid hr; clear hr
  have HO := Lib.hid hok; clear hok
  go_enter Try.func28, Try.ntmps28
  go_wp2_with fail
  refine namedC fun w0 H0 => ?_
  have hb0 : Below w.heap.size w w0 := by rw [H0.out]; (repeat first | exact Below.refl _ _ | assumption | refine Below.drew ?_ | refine Below.alloc ?_ (by first | exact Nat.le_refl _ | (simp; done) | omega | (simp; omega)) _ | refine Below.setCell ?_ (by first | exact Nat.le_refl _ | (simp; done) | omega | (simp; omega)) _)
  clear H0
  refine (census_any A n c rs w0 hn (HR.out.next hb0) HO.out).mono ?_
  rintro e w1 ⟨hb1, ⟨ls, A2, c2, A3, c3, hg, rfl, own2, own3⟩ | ⟨hg, rfl⟩⟩
  case inr =>
    obtain ⟨e1, e2⟩ := embF1 (p := s) (show (gOk rs).isSome = false by rw [hg]; rfl)
    have E1 := Lib.hid e1; have E2 := Lib.hid e2
    clear hg e1 e2
    go_wp2_with fail
    go_ret2
    rw [E1.out, E2.out]
    exact ⟨none, 0, rfl, World.ownsRow_nil _ _ _ _, (hb0.trans (hb1.mono hb0.size)).alloc (by have := hb0.size; have := hb1.size; omega) _⟩
  have HG := Lib.hid (show (gOk rs).isSome = true by rw [hg]; rfl)
  have HL := Lib.hid (gOk_lens hg).1
  have hll0 := Lib.hid (gOk_lens hg).2.2
  have hll := Lib.hid ((gOk_lens hg).2.2.trans hl.out)
  clear hg
  have b1 := hb0.trans (hb1.mono hb0.size)
  have r2 := Lib.hid (Rd.of_own (enc := intE) (fun _ _ => rfl) hll.out own2)
  have r3 := Lib.hid (Rd.of_own (fun y _ => lenQ4 y) rfl own3)
  clear own2 own3
  generalize hN : (foldAll Q4.nil cntF cntG Q4.nil rs).length = N at *
  have HN := Lib.hid hN; clear hN
  go_wp2_with fail
  refine namedC fun w2 H2 => ?_
  have hb2 : Below w1.heap.size w1 w2 := by rw [H2.out]; (repeat first | exact Below.refl _ _ | assumption | refine Below.drew ?_ | refine Below.alloc ?_ (by first | exact Nat.le_refl _ | (simp; done) | omega | (simp; omega)) _ | refine Below.setCell ?_ (by first | exact Nat.le_refl _ | (simp; done) | omega | (simp; omega)) _)
  have BC := Lib.hid (show Blk w2 w1.heap.size 59 #[.slice A n c, .slice A2 n c2, .slice A3 N c3] by rw [H2.out]; exact Blk.new _ _ _)
  clear H2
  have b2 := b1.trans (hb2.mono b1.size)
  rcases h2 : okW s with _ | _
  · obtain ⟨e1, e2⟩ := embF2 HG.out h2
    have H2 := Lib.hid h2; clear h2
    have E1 := Lib.hid e1; have E2 := Lib.hid e2
    clear e1 e2
    refine (validWord_any s false _ hs H2.out).mono ?_
    rintro e1 w3 ⟨rfl, hb3⟩
    go_wp2_with fail
    go_ret2
    rw [E1.out, E2.out]
    exact ⟨none, 0, rfl, World.ownsRow_nil _ _ _ _, b2.trans (hb3.mono b2.size)⟩
  have H2 := Lib.hid h2; clear h2
  refine (validWord_any s true _ hs H2.out).mono ?_
  rintro e1 w3 ⟨rfl, hb3⟩
  have b3 := b2.trans (hb3.mono b2.size)
  have hb13 := hb2.trans (hb3.mono hb2.size)
  have BC3 := BC.out.next hb3
  obtain ⟨d0, d1, d2⟩ := BC3.three
  have l3 := BC3.lt
  clear BC3
  go_wp2_with fail
  refine (embed_any A n c rs A2 c2 A3 N c3 ls s w3 hn (HR.out.next b3) HL.out hll0.out (r2.out.next hb13) HN.out (r3.out.next hb13) H2.out).mono ?_
  rintro e1 w4 ⟨A4, c4, rfl, own4, hb4⟩
  have O4 := Lib.hid own4; clear own4
  have b4 := b3.trans (hb4.mono b3.size)
  by_cases h4 : (embAll rs ls s).length < s.size
  · obtain ⟨e1, e2⟩ := embF3 HL.out HG.out H2.out h4
    have E1 := Lib.hid e1; have E2 := Lib.hid e2
    clear e1 e2
    go_wp2_with fail
    go_ret2
    rw [E1.out, E2.out]
    exact ⟨none, 0, rfl, World.ownsRow_nil _ _ _ _, b4⟩
  · obtain ⟨e1, e2⟩ := embF4 HL.out HG.out H2.out h4
    have E1 := Lib.hid e1; have E2 := Lib.hid e2
    clear e1 e2
    go_wp2_with fail
    go_ret2
    rw [E1.out, E2.out]
    exact ⟨A4, c4, rfl, O4.out.mono b3.size, b4⟩
end Go.Proofs.Ytecnkmndmnefdaa


/-
  Words scattered one behind the other: what is told of the word.
-/
namespace Go.Proofs.Ytecnkmndmnefdaa

/-- how many letters of the powers of P, from the place o on, are met in order -/
def mtc (P : List Nat) : Nat → List Nat → Nat
  | _, [] => 0
  | o, x :: r => if P.getD o 0 = x then 1 + mtc P ((o + 1) % P.length) r else mtc P o r
theorem mtc_app (P : List Nat) : ∀ (u v : List Nat) (o : Nat), o < P.length → mtc P o (u ++ v) = mtc P o u + mtc P ((o + mtc P o u) % P.length) v
  | [], v, o, h => by simp [mtc, Nat.mod_eq_of_lt h]
  | x :: r, v, o, h => by
    have hp : 0 < P.length := by omega
    rw [List.cons_append, mtc, mtc]
    by_cases hx : P.getD o 0 = x
    · rw [if_pos hx, if_pos hx, mtc_app P r v _ (Nat.mod_lt _ hp), Nat.mod_add_mod, show o + (1 + mtc P ((o + 1) % P.length) r) = o + 1 + mtc P ((o + 1) % P.length) r by omega]; omega
    · rw [if_neg hx, if_neg hx, mtc_app P r v o h]
theorem mtc_le (P : List Nat) : ∀ (u : List Nat) (o : Nat), mtc P o u ≤ u.length
  | [], _ => by simp [mtc]
  | x :: r, o => by
    rw [mtc]
    have h1 := mtc_le P r ((o + 1) % P.length)
    have h2 := mtc_le P r o
    split <;> simp <;> omega
/-- each round takes one of the first letter -/
theorem mtc_first (P : List Nat) : ∀ (u : List Nat) (o : Nat), o < P.length → mtc P o u ≤ P.length * u.count (P.getD 0 0) + (if o = 0 then 0 else P.length - o)
  | [], o, h => by simp [mtc]
  | x :: r, o, h => by
    have hp : 0 < P.length := by omega
    rw [mtc, List.count_cons]
    have hc : P.length * (r.count (P.getD 0 0) + 1) = P.length * r.count (P.getD 0 0) + P.length := by rw [Nat.mul_add, Nat.mul_one]
    by_cases hx : P.getD o 0 = x
    · rw [if_pos hx]
      have ih := mtc_first P r ((o + 1) % P.length) (Nat.mod_lt _ hp)
      by_cases ho : o = 0
      · subst ho
        rw [if_pos rfl, show (x == P.getD 0 0) = true by rw [hx]; simp, if_pos rfl, hc]
        by_cases h1 : P.length = 1
        · rw [h1] at ih ⊢
          simp at ih ⊢
          omega
        · rw [Nat.mod_eq_of_lt (by omega), if_neg (by omega)] at ih
          rw [Nat.mod_eq_of_lt (show 0 + 1 < P.length by omega)]
          omega
      · rw [if_neg ho]
        have h0 : P.length * r.count (P.getD 0 0) ≤ P.length * (r.count (P.getD 0 0) + if (x == P.getD 0 0) = true then 1 else 0) := Nat.mul_le_mul_left _ (by omega)
        by_cases h1 : o + 1 = P.length
        · rw [h1, Nat.mod_self, if_pos rfl] at ih
          rw [h1, Nat.mod_self]
          omega
        · rw [Nat.mod_eq_of_lt (by omega), if_neg (by omega)] at ih
          rw [Nat.mod_eq_of_lt (show o + 1 < P.length by omega)]
          omega
    · rw [if_neg hx]
      have ih := mtc_first P r o h
      have h0 : P.length * r.count (P.getD 0 0) ≤ P.length * (r.count (P.getD 0 0) + if (x == P.getD 0 0) = true then 1 else 0) := Nat.mul_le_mul_left _ (by omega)
      omega
theorem mtc_one (y : Nat) : ∀ u : List Nat, mtc [y] 0 u = u.count y
  | [] => rfl
  | x :: r => by
    rw [mtc, List.count_cons]
    show (if y = x then 1 + mtc [y] ((0 + 1) % 1) r else mtc [y] 0 r) = _
    rw [show (0 + 1) % 1 = 0 by omega, mtc_one y r]
    by_cases h : y = x
    · rw [if_pos h, if_pos (by simp [h])]; omega
    · rw [if_neg h, if_neg (by simp; exact fun e => h e.symm)]; omega
theorem nums_tx {u : List Nat} (h : ∀ x ∈ u, x < 4) : nums (tx u) = u := by
  unfold nums
  rw [tx_toList]
  unfold txB
  rw [List.map_map]
  conv => rhs; rw [← List.map_id u]
  refine List.map_congr_left fun x hx => ?_
  have := h x hx
  show (UInt8.ofNat (97 + x)).toNat - 97 = x
  rw [UInt8.toNat_ofNat']; omega
theorem okW_tx {u : List Nat} (h : ∀ x ∈ u, x < 4) (hl : u.length ≤ 2000) : okW (tx u) = true := by
  rw [okW_all (by rw [tx_size]; exact hl)]
  exact tx_let h
section
variable {rs : List Fac} {P : List Nat}
theorem spAll_word (hwf : WF rs) (hP : ∀ x ∈ P, x < 4) (h0 : 0 < P.length) {k : Nat} (hk : k < rs.length) : (spAll (tx P) rs).getD k [] = (List.range P.length).map fun o => (mtc P o ((wds rs).getD k []) : Int) := by
  have hsz : (tx P).size = P.length := tx_size P
  refine full_hom (d := []) (F := spF (tx P)) (G := spG (tx P).size) hwf (fun u => (List.range P.length).map fun o => (mtc P o u : Int)) (fun l hl => ?_) (fun u v r _ _ _ _ => ?_) k hk
  · unfold spF
    rw [hsz]
    refine List.map_congr_left fun o ho => ?_
    have ho' := List.mem_range.1 ho
    have hPo : P.getD o 0 < 4 := by
      rw [List.getD_eq_getElem?_getD, List.getElem?_eq_getElem ho']; exact hP _ (List.getElem_mem ho')
    unfold spI
    have e : (((tx P).data.toList.getD o 0).toNat - 97) = P.getD o 0 := by
      rw [tx_toList, List.getD_eq_getElem?_getD, List.getElem?_eq_getElem (by simp [txB]; exact ho')]
      simp only [txB, List.getElem_map, Option.getD_some]
      rw [List.getD_eq_getElem?_getD, List.getElem?_eq_getElem ho'] at hPo ⊢
      simp only [Option.getD_some] at hPo ⊢
      rw [UInt8.toNat_ofNat']; omega
    rw [e]
    show _ = ((mtc P o [l] : Nat) : Int)
    rw [mtc]
    split
    · rfl
    · rfl
  · unfold spG
    rw [hsz]
    refine List.map_congr_left fun o ho => ?_
    have ho' := List.mem_range.1 ho
    unfold spJ
    rw [rng_at (fun o => (mtc P o u : Int)) ho']
    have hm : (((o : Int) + (mtc P o u : Int)) % (P.length : Int)).toNat = (o + mtc P o u) % P.length := by
      have h2 : ((o : Int) + (mtc P o u : Int)) % (P.length : Int) = (((o + mtc P o u) % P.length : Nat) : Int) := by rw [Int.natCast_emod, Int.natCast_add]
      omega
    rw [hm, rng_at (fun o => (mtc P o v : Int)) (Nat.mod_lt _ h0), mtc_app P u v o ho']; omega
theorem spTop_word (hwf : WF rs) (hP : ∀ x ∈ P, x < 4) (h0 : 0 < P.length) : spTop rs (tx P) = (mtc P 0 (wdN rs) : Int) := by
  unfold spTop wdN
  by_cases h : rs = []
  · subst h; rfl
  · have h1 : rs.length ≠ 0 := fun e => h (List.eq_nil_of_length_eq_zero e)
    rw [if_neg h1, if_neg h, spAll_word hwf hP h0 (by omega), rng_at (fun o => (mtc P o ((wds rs).getD (rs.length - 1) []) : Int)) h0]
end
/-- how many letters of a list are met in order -/
def gm : List Nat → List Nat → Nat
  | [], _ => 0
  | x :: u, q => match q with
    | [] => 0
    | y :: q' => if y = x then 1 + gm u q' else gm u (y :: q')
theorem gm_nil (u : List Nat) : gm u [] = 0 := by cases u <;> rfl
theorem gm_cons (x y : Nat) (u q : List Nat) : gm (x :: u) (y :: q) = if y = x then 1 + gm u q else gm u (y :: q) := rfl
theorem gm_skip {l : Nat} : ∀ {m : List Nat} (v q : List Nat), cn l m = 0 → gm (m ++ v) (l :: q) = gm v (l :: q)
  | [], _, _, _ => rfl
  | x :: m, v, q, h => by
    rw [cn_cons] at h
    have := cn_nn l m
    by_cases hx : x = l
    · rw [if_pos hx] at h; omega
    · rw [if_neg hx] at h
      rw [List.cons_append, gm_cons, if_neg (fun e => hx e.symm), gm_skip v q (by omega)]
theorem gm_none {l : Nat} {v : List Nat} (q : List Nat) (h : cn l v = 0) : gm v (l :: q) = 0 := by
  have := gm_skip (m := v) [] q h
  rw [List.append_nil] at this
  rw [this]; rfl
theorem cn_take_le (l : Nat) (u : List Nat) {i j : Nat} (h : i ≤ j) : cn l (u.take i) ≤ cn l (u.take j) := by
  have e : u.take j = u.take i ++ (u.drop i).take (j - i) := by rw [show j = i + (j - i) by omega, List.take_add]; congr 2; omega
  have := cn_nn l ((u.drop i).take (j - i))
  rw [e, cn_app]; omega
theorem cn_take_succ {l : Nat} {u : List Nat} {j : Nat} (h : u[j]? = some l) : cn l (u.take (j + 1)) = cn l (u.take j) + 1 := by
  obtain ⟨hj, e⟩ := List.getElem?_eq_some_iff.1 h
  rw [List.take_succ_eq_append_getElem hj, cn_app, e, cn_cons, if_pos rfl, cn_nil]; omega
section
variable {rs : List Fac} {ls : List Int}
theorem embGo_word (hls : gLens rs [] = some ls) : ∀ (pl : List UInt8) (nx : Nat), pl.all letB = true → (embGo rs ls pl nx).length = gm ((wdN rs).drop nx) (pl.map numC)
  | [], nx, _ => by rw [List.map_nil, gm_nil]; rfl
  | c :: r, nx, h => by
    have hwf := wf_of hls
    simp only [List.all_cons, Bool.and_eq_true] at h
    have hb := letB_num h.1
    obtain ⟨l, hl⟩ : ∃ l, c.toNat - 97 = l := ⟨_, rfl⟩
    have h4 : l < 4 := by omega
    rw [embGo, hl, topQ_word hwf, cq_at _ h4, rkT_word hls h4, Int.toNat_natCast, List.map_cons, show numC c = l from hl]
    have hsp : cn l (wdN rs) = cn l ((wdN rs).take nx) + cn l ((wdN rs).drop nx) := by rw [← cn_app, List.take_append_drop]
    have hn := cn_nn l ((wdN rs).drop nx)
    by_cases hle : cn l (wdN rs) ≤ cn l ((wdN rs).take nx)
    · rw [if_pos hle, gm_none _ (by omega)]; rfl
    · rw [if_neg hle]
      obtain ⟨j, e1, e2, e3⟩ := sel_word hls h4 (k := cn l ((wdN rs).take nx)) (cn_nn _ _) (by omega)
      have en : nextAt rs ls l nx = (j : Int) := by unfold nextAt; rw [rkT_word hls h4, Int.toNat_natCast]; exact e1
      have hj := (List.getElem?_eq_some_iff.1 e2).1
      have hjn : nx ≤ j := by
        rcases Nat.lt_or_ge j nx with h5 | h5
        · have h6 := cn_take_le l (wdN rs) (show j + 1 ≤ nx by omega)
          rw [cn_take_succ e2] at h6; omega
        · exact h5
      have hd : (wdN rs).drop nx = ((wdN rs).drop nx).take (j - nx) ++ (l :: (wdN rs).drop (j + 1)) := by
        have e5 : (wdN rs).drop j = l :: (wdN rs).drop (j + 1) := by rw [List.drop_eq_getElem_cons hj, (List.getElem?_eq_some_iff.1 e2).2]
        rw [← e5]
        conv => lhs; rw [← List.take_append_drop (j - nx) ((wdN rs).drop nx)]
        rw [List.drop_drop, show nx + (j - nx) = j by omega]
      have hz : cn l (((wdN rs).drop nx).take (j - nx)) = 0 := by
        have e6 : (wdN rs).take j = (wdN rs).take nx ++ ((wdN rs).drop nx).take (j - nx) := by rw [show j = nx + (j - nx) by omega, List.take_add]; congr 2; omega
        rw [e6, cn_app] at e3; omega
      rw [en, List.length_cons, show ((j : Int) + 1) = ((j + 1 : Nat) : Int) by omega, embGo_word hls r (j + 1) h.2, hd, gm_skip _ _ hz, gm_cons, if_pos rfl]
      omega
end
/-- the letters of the powers, from a place on -/
def cyc (P : List Nat) : Nat → Nat → List Nat
  | _, 0 => []
  | o, n + 1 => P.getD o 0 :: cyc P ((o + 1) % P.length) n
theorem gm_cyc (P : List Nat) : ∀ (u : List Nat) (o n : Nat), gm u (cyc P o n) = min n (mtc P o u)
  | [], o, n => by simp [gm, mtc]
  | x :: u, o, 0 => by rw [cyc, gm_nil]; simp
  | x :: u, o, n + 1 => by
    rw [cyc, gm_cons, mtc]
    by_cases h : P.getD o 0 = x
    · rw [if_pos h, if_pos h, gm_cyc P u]; omega
    · rw [if_neg h, if_neg h]
      have := gm_cyc P u o (n + 1)
      rw [cyc] at this
      exact this
theorem cyc_add (P : List Nat) : ∀ (m n o : Nat), o < P.length → cyc P o (m + n) = cyc P o m ++ cyc P ((o + m) % P.length) n
  | 0, n, o, h => by simp [cyc, Nat.mod_eq_of_lt h]
  | m + 1, n, o, h => by
    rw [show m + 1 + n = (m + n) + 1 by omega, cyc, cyc, cyc_add P m n _ (Nat.mod_lt _ (by omega)), Nat.mod_add_mod, show o + 1 + m = o + (m + 1) by omega]; rfl
theorem cyc_drop (P : List Nat) : ∀ (d o : Nat), o + d = P.length → cyc P o d = P.drop o
  | 0, o, h => by rw [List.drop_of_length_le (by omega)]; rfl
  | d + 1, o, h => by
    rw [cyc, List.drop_eq_getElem_cons (by omega), List.getD_eq_getElem?_getD, List.getElem?_eq_getElem (by omega)]
    congr 1
    by_cases h1 : o + 1 = P.length
    · have : d = 0 := by omega
      subst this
      rw [List.drop_of_length_le (by omega)]; rfl
    · rw [Nat.mod_eq_of_lt (by omega)]
      exact cyc_drop P d (o + 1) (by omega)
theorem cyc_rep (P : List Nat) (h : 0 < P.length) : ∀ k, cyc P 0 (k * P.length) = rep P k
  | 0 => by rw [Nat.zero_mul]; rfl
  | k + 1 => by
    rw [Nat.succ_mul, cyc_add P _ _ _ h, cyc_rep P h k, Nat.zero_add, Nat.mul_mod_left, cyc_drop P P.length 0 (by omega)]; rfl
theorem rep_let {P : List Nat} (h : ∀ x ∈ P, x < 4) : ∀ k, ∀ x ∈ rep P k, x < 4
  | 0, x, hx => by simp [rep] at hx
  | k + 1, x, hx => by
    rcases List.mem_append.1 hx with hx | hx
    · exact rep_let h k x hx
    · exact h x hx
/-- the code of the search for a power -/
theorem embFC_rep {rs : List Fac} {P : List Nat} (hg : (gOk rs).isSome = true) (hP : ∀ x ∈ P, x < 4) (h0 : 0 < P.length) {k : Nat} (hk : k * P.length ≤ 2000) :
    embFC rs (tx (rep P k)) = if k * P.length ≤ mtc P 0 (wdN rs) then 0 else 6 := by
  obtain ⟨ls, hls⟩ := Option.isSome_iff_exists.1 hg
  have hls' := (gOk_lens hls).1
  have hl : (rep P k).length = k * P.length := rep_len P k
  have hR := rep_let hP k
  unfold embFC
  rw [if_neg (by rw [hg]; decide), if_neg (by rw [okW_tx hR (by omega)]; decide), hls', tx_size, hl]
  show (if (embAll rs ls (tx (rep P k))).length < _ then (6 : Int) else 0) = _
  unfold embAll
  rw [show (0 : Int) = ((0 : Nat) : Int) from rfl, embGo_word hls' _ 0 (tx_let hR), List.drop_zero]
  rw [show (tx (rep P k)).data.toList.map numC = nums (tx (rep P k)) from rfl, nums_tx hR, ← cyc_rep P h0 k, gm_cyc]
  by_cases h : k * P.length ≤ mtc P 0 (wdN rs)
  · rw [if_pos h, if_neg (by omega)]
  · rw [if_neg h, if_pos (by omega)]
end Go.Proofs.Ytecnkmndmnefdaa


/-
  The letters of a grammar's word, in the reference.
-/
namespace Go.Proofs.Ytecnkmndmnefdaa
open Go.RowKit

def lt8 (u : List Nat) (i : Nat) : Value := .int .u8 ((97 + u.getD i 0 : Nat) : Int)
theorem wds_get_pair {rs : List Fac} (hwf : WF rs) {k : Nat} {r : Fac} (h : rs[k]? = some r) (h0 : r.l.size = 0) : (wds rs).getD k [] = (wds rs).getD r.a.toNat [] ++ (wds rs).getD r.b.toNat [] := full_pair [] wdF wdG hwf h h0
theorem wds_get_let {rs : List Fac} {k : Nat} {r : Fac} (h : rs[k]? = some r) {c : UInt8} (hl : r.l = ⟨#[c]⟩) : (wds rs).getD k [] = [c.toNat - 97] := by
  have := full_let [] wdF wdG h (by rw [hl]; show (1 : Nat) ≠ 0; omega)
  rw [hl] at this
  exact this
set_option maxHeartbeats 2000000 in
set_option maxRecDepth 100000 in
theorem l02Letter_any (gb : Nat) (A : Option Addr) (n c : Nat) (rs : List Fac) (B : Option Addr) (m d : Nat) (ls : List Int) (i : Nat) (w : World) (hg : gb < w.heap.size) (hc : w.cell? ⟨gb, 0, none⟩ = some (.slice A n c)) (hn4 : n ≤ 400)
    (hr : Rd w w.heap.size A n 3 Fac.cells rs) (hl : Rd w w.heap.size B m 1 intE ls) (hls : gLens rs [] = some ls) (hi : i < (wdN rs).length) (hi4 : i ≤ 1000000000000000) :
    Calls Try.prog 91 #[.pointer (some ⟨gb, 0, none⟩), .slice B m d, .int .i64 i] w (Ret (lt8 (wdN rs) i) w) := by
  have hwf := Lib.hid (wf_of hls)
  have HN := Lib.hid hr.len
  have hne : rs ≠ [] := by intro e; rw [e] at hi; simp [wdN] at hi
  have hn0 : 0 < n := by rw [← HN.out]; exact List.length_pos_iff.2 hne
  have hml := gLens_len rs [] ls hls
  simp only [List.length_nil, Nat.zero_add] at hml
  have HM := Lib.hid (show m = n by rw [← hl.len, hml, HN.out])
  have HI := Lib.hid hi
  have HS := Lib.hid (show ((wds rs).getD (n - 1) [])[i]? = (wdN rs)[i]? by unfold wdN; rw [if_neg hne, HN.out])
  have HL := Lib.hid hl
  have HR := Lib.hid hr
  have HLs := Lib.hid hls
  obtain ⟨q, hq⟩ : ∃ q, n - 1 = q := ⟨_, rfl⟩
  have hqn : q < n := by omega
  have um : IntKind.i64.wrap ((n : Int) - 1) = (q : Int) := by rw [IntWalk.i64_in _ (by omega)]; omega
  rw [hq] at HS
  clear hr hl hls hi hml hq
  go_enter Try.func91, Try.ntmps91
  go_wp2_with fail
  clear um
  go_loop [2, 7] (fun i_ at_ => ∃ (a j : Nat), at_ = .int .i64 a ∧ i_ = .int .i64 j ∧ a < n ∧ j ≤ i ∧ Hid (((wds rs).getD a [])[j]? = (wdN rs)[i]?)) (fun _ at_ => (intOf at_).toNat)
  case atStart => exact ⟨q, i, rfl, rfl, hqn, Nat.le_refl _, HS⟩
  case round =>
    obtain ⟨a, j, rfl, rfl, ha, hj, H⟩ := hrel
    clear HS
    obtain ⟨b, o, x, rfl, hB, gx, c0, c1, c2⟩ := HR.out.fac ha
    have Gx := Lib.hid gx
    have i0 : (0 : Int) ≤ (a : Int) := by omega
    have i1 : (a : Int) < (n : Int) := by omega
    have hjl : j < ((wds rs).getD a []).length := by
      have h1 := H.out
      rw [List.getElem?_eq_getElem HI.out] at h1
      exact (List.getElem?_eq_some_iff.1 h1).1
    have HJ := Lib.hid hjl
    clear gx hjl
    rcases hwf.out a x Gx.out with ⟨h0, ha0, ha1, hb0, hb1⟩ | ⟨cc, hcc, hxl, hxa, hxb⟩
    · have e0 := size0 h0
      obtain ⟨l, hle⟩ : ∃ l : Nat, x.a = l := ⟨x.a.toNat, by omega⟩
      obtain ⟨r, hre⟩ : ∃ r : Nat, x.b = r := ⟨x.b.toNat, by omega⟩
      have hw := wds_get_pair hwf.out Gx.out h0
      rw [hle, hre, Int.toNat_natCast, Int.toNat_natCast] at hw
      have HW := Lib.hid hw
      rw [hle] at c1 ha1
      rw [hre] at c2 hb1
      obtain ⟨b', o', y, rfl, hB', gy, d0⟩ := (show Rd w w.heap.size B m 1 (fun s => [.int .i64 s]) ls from HL.out).int (show l < m by rw [HM.out]; omega)
      have hy : y = (((wds rs).getD l []).length : Int) := by
        have := lens_word HLs.out (k := l) (by have := HN.out; omega)
        rw [List.getD_eq_getElem?_getD, gy] at this
        exact this
      have Hy := Lib.hid hy
      obtain ⟨L, hL⟩ : ∃ L, ((wds rs).getD l []).length = L := ⟨_, rfl⟩
      rw [hL] at hy
      have HLl := Lib.hid hL
      subst hy
      have l0 : (0 : Int) ≤ (l : Int) := by omega
      have l1 : (l : Int) < (m : Int) := by have := HM.out; omega
      clear hw hle hre ha0 hb0 gy hL h0
      by_cases hjL : j < L
      · have c3 : (j : Int) < (L : Int) := by omega
        go_wp2_with fail
        go_round
        case rel => exact ⟨l, j, rfl, rfl, by omega, hj, Lib.hid (by rw [← H.out, HW.out, List.getElem?_append_left (by rw [HLl.out]; exact hjL)])⟩
        case measure => simp [intOf]; omega
      · have c3 : ¬ (j : Int) < (L : Int) := by omega
        have um : IntKind.i64.wrap ((j : Int) - (L : Int)) = ((j - L : Nat) : Int) := by rw [IntWalk.i64_in _ (by omega)]; omega
        go_wp2_with fail
        go_round
        case rel => exact ⟨r, j - L, rfl, by go_num, by omega, by omega, Lib.hid (by rw [← H.out, HW.out, List.getElem?_append_right (by rw [HLl.out]; omega), HLl.out])⟩
        case measure => simp [intOf]; omega
    · have hw := wds_get_let Gx.out hxl
      have hj0 : j = 0 := by
        have := HJ.out
        rw [hw] at this
        simp at this; exact this
      have hlet := letB_num hcc
      have hv : (97 + (wdN rs).getD i 0 : Nat) = cc.toNat := by
        have h1 := H.out
        rw [hw, hj0] at h1
        rw [List.getD_eq_getElem?_getD, ← h1]
        simp; omega
      have HV := Lib.hid (show lt8 (wdN rs) i = .int .u8 (cc.toNat : Int) by unfold lt8; rw [hv])
      obtain ⟨xl, xa, xb⟩ := x
      simp only at hxl hxa hxb c0 c1 c2
      subst hxl hxa hxb
      have e1 := size1 (s := ⟨#[cc]⟩) (show (1 : Nat) ≠ 0 by omega)
      have e2 := size1' (s := ⟨#[cc]⟩) (show (1 : Nat) ≠ 0 by omega)
      clear hw hv hcc hlet
      go_wp2_with fail
      go_ret
      rw [HV.out]
      exact ⟨rfl, Below.refl _ _⟩
end Go.Proofs.Ytecnkmndmnefdaa
