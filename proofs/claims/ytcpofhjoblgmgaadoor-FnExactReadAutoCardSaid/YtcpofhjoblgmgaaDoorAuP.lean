
/-
  An automaton out of its text, in the reference.
-/
import Derived.Test.YtcpofhjoblgmgaaDoorAuQ
namespace Go.Proofs.YtcpofhjoblgmgaaDoor
open Go.RowKit

section
variable {α : Type} {P : Program} {w : World} {ops : Array Oper} {o : Oper} {a : Act} {rest : List Oper}
/-- a list appended to a slice of the call's own -/
theorem wpList_appG {Q : Exit → Act → World → Prop} (hgd : o.guard = none) (s x : Operand) (t : TypeId) (ho : o.op = .call { callee := .builtin .append, args := #[s, x], argTypes := #[t, t] })
    (base : Nat) (e : TypeId) (sz bytes : Nat) (EI : Elem P t e sz bytes) (enc : α → List Value) (A : Option Addr) (n c : Nat) (xs : List α) (hs : a.eval s = .slice A n c)
    (hown : w.ownsRow base e sz (.slice A n c) n (xs.flatMap enc)) (ad : Addr) (m cc : Nat) (ys : List α) (hx : a.eval x = .slice (some ad) m cc) (hym : ys.length = m) (hm0 : 0 < m) (hnews : ∀ j u, (ys.flatMap enc)[j]? = some u → w.cell? (ad.add j) = some u)
    (hlen : ∀ y ∈ ys, (enc y).length = sz) (hone : ∀ y ∈ ys, ∀ u ∈ enc y, u.oneCell' = true) (hsz : 0 < sz) (hbytes : (n + m) * bytes ≤ 140737488355328) (hm : n + m ≤ maxLen) (hsize : base ≤ w.heap.size)
    (h : ∀ A' c' w', w'.ownsRow base e sz (.slice A' (n + m) c') (n + m) ((xs ++ ys).flatMap enc) → w.grownBy w' (Value.slice A n c).ownBlock →
      ((Value.slice A' (n + m) c').ownBlock = (Value.slice A n c).ownBlock ∨ (Value.slice A' (n + m) c').ownBlock = some w.heap.size) → wpList P ops Q rest (a.put o.dst (.slice A' (n + m) c')) w') : wpList P ops Q (o :: rest) a w := by
  obtain ⟨ht, i, z, hi, hz, h1, h2, hzs⟩ := EI
  refine wpList_plain hgd fun _ hK => ?_
  obtain ⟨v', w', hr, r2, r3, _, r5⟩ := run_append_own_at (P := P) w base t o.type e i z sz bytes ht hi hz h1 h2 hzs hsz _ n _ hown ad m cc (ys.flatMap enc) (by rw [flat_len ys hlen, hym]) hnews
    (fun u hu => by obtain ⟨y, hy, hu⟩ := List.mem_flatMap.1 hu; exact hone y hy u hu) hm hbytes hsize
  obtain ⟨g', cap, rfl, _, _⟩ := r2.form (by omega)
  unfold Oper.wp execOp
  simp only [ho, resolve, invoke, builtin, Sem.run_bind, Sem.run_pure, Result.andThen_ok, List.map_toArray, List.map_cons, List.map_nil, hs, hx, hr]
  exact hK _ _ (h _ _ w' (by rw [List.flatMap_append]; exact r2) r3 r5)
end
/-- the final states are put -/
theorem RaW.fins {w W : World} {gb : Nat} {S q : Int} {F G : Option Addr} {nf cf ng cg : Nat} {fin gin : List Int} {lb m lc : Nat} {LS : List (List UInt8)} (h : RaW w W gb S q F nf cf fin none 0 0 [] [] lb m lc LS) (hf : W.ownsRow w.heap.size 2 1 (.slice G ng cg) ng (gin.flatMap intE)) :
    RaW w (W.setCell ⟨gb, 2, none⟩ (.slice G ng cg)) gb S q G ng cg gin none 0 0 [] [] lb m lc LS :=
  ⟨h.a.set_ 2 _, h.r.far (p := ⟨gb, 2, none⟩) (by show w.heap.size ≠ gb; have := h.hg; omega) _, own_keptR hf h.a (by decide) _, TabR.nil _ _, fun i p g h1 => by simp at h1, own_keptR h.l h.a (by decide) _, h.hg, h.be.setCell (p := ⟨gb, 2, none⟩) (by have := h.hg; show w.heap.size ≤ gb; omega) _⟩
theorem nbS_len (x : List UInt8) : (nbS x).length ≤ x.length + 1 := by
  unfold nbS
  rw [List.length_map, List.length_drop]
  have := spl_count 32 x
  omega
theorem getD_app2 {l : List Int} {a b : Int} : ∃ h0 h1 r, l ++ [a, b] = h0 :: h1 :: r := by
  match l with
  | [] => exact ⟨a, b, [], rfl⟩
  | [x] => exact ⟨x, a, [b], rfl⟩
  | x :: y :: r => exact ⟨x, y, r ++ [a, b], rfl⟩
set_option maxHeartbeats 4000000 in
set_option maxRecDepth 100000 in
theorem readAutoS_any (s : ByteArray) (w : World) : Calls Tryd.prog 4 #[.string s] w (RetAu w (ansA (ansS s)).1 (ansA (ansS s)).2) := by
  have Z0 := Lib.hid (Blk.new w 25 #[.int .i64 0, .int .i64 0, .slice none 0 0, .slice none 0 0])
  have zb := Lib.hid (show Below w.heap.size w (w.alloc (.cells #[.int .i64 0, .int .i64 0, .slice none 0 0, .slice none 0 0] 25)) from by (repeat first | exact Below.refl _ _ | assumption | refine Below.drew ?_ | refine Below.alloc ?_ (by first | exact Nat.le_refl _ | (simp; done) | omega | (simp; omega)) _ | refine Below.setCell ?_ (by first | exact Nat.le_refl _ | (simp; done) | omega | (simp; omega)) _))
  by_cases h2 : 2000 < s.size
  · have i1 : (2000 : Int) < (s.size : Int) := by omega
    have e1 := Lib.hid (show ansA (ansS s) = (auN, 2) by unfold ansS; rw [if_pos h2]; rfl)
    obtain ⟨z0, z1, z2, z3⟩ := Z0.out.four
    have zf := Z0.out.frozen
    have zl := Z0.out.lt
    go_enter Tryd.func4, Tryd.ntmps4
    go_wp2_with fail
    rw [e1.out]
    exact bodyPost_ret (v := .tuple #[.agg #[.int .i64 0, .int .i64 0, .slice none 0 0, .slice none 0 0], .int .i64 2]) (by simp [results, Tryd.results4, go_sem, z0, z1, z2, z3]) rfl (au_err 2 zb.out)
  have i1 : ¬ (2000 : Int) < (s.size : Int) := by omega
  have e1 := Lib.hid (show ansS s = if auB (rdAS (spl 10 s.data.toList)) = true ∧ auT (rdAS (spl 10 s.data.toList)) = s.data.toList then (some (rdAS (spl 10 s.data.toList)), 0) else (none, 5) by unfold ansS; rw [if_neg h2])
  have hcnt := spl_count 10 s.data.toList
  rw [len_byteR] at hcnt
  have hpos := List.length_pos_iff.2 (spl_ne 10 s.data.toList)
  have hsm := Lib.hid (fun x hx => by have h := spl_small 10 s.data.toList x hx; rw [len_byteR] at h; exact h)
  have SPc := Lib.hid (fun W => show Calls Tryd.prog 9 #[.string s, .int .u8 10] W (RetNew W 9 1 strE (bas (spl 10 s.data.toList))) from split_any s 10 W (by omega))
  generalize spl 10 s.data.toList = LS at *
  have hbl : (bas LS).length = LS.length := by unfold bas; simp
  obtain ⟨m, hm⟩ : ∃ m, LS.length = m := ⟨_, rfl⟩
  have NB := Lib.hid (fun (x : List UInt8) (hx : x ∈ LS) W => nbS_any x W (by have := hsm.out x hx; omega))
  go_enter Tryd.func4, Tryd.ntmps4
  go_wp2_with fail
  refine (SPc.out _).mono ?_
  rintro e w1 ⟨A1, c1, rfl, own1, hb1⟩
  rw [hbl, hm] at own1 ⊢
  obtain ⟨lb, rfl, hlB, hlb, hcap, RL⟩ := pieces_at (hbl.trans hm) (by omega) own1
  have L1 := Lib.hid (own1.mono zb.out.size)
  have R1 := Lib.hid (Z0.out.next hb1)
  have b1 := Lib.hid (zb.out.trans (hb1.mono zb.out.size))
  have RL := Lib.hid RL
  obtain ⟨x0, hx0⟩ : ∃ x, LS[0]? = some x := ⟨_, List.getElem?_eq_getElem (by omega)⟩
  have N0 := Lib.hid (NB.out x0 (List.mem_of_getElem? hx0) w1)
  have l0 := RL.out 0 x0 hx0
  have m0 : (0 : Int) < (m : Int) := by omega
  have hnl0 := nbS_len x0
  have hxl0 := hsm.out x0 (List.mem_of_getElem? hx0)
  have hLD : LS.getD 0 [] = x0 := by rw [List.getD_eq_getElem?_getD, hx0]; rfl
  clear own1 hb1 SPc Z0 zb
  go_wp2_with fail
  refine N0.out.mono ?_
  rintro e w3 ⟨Ah, ch, rfl, ownh, hbh⟩
  have HRd := Lib.hid (show rdAS LS = ⟨(nbS x0 ++ [-1, -1]).getD 0 0, (nbS x0 ++ [-1, -1]).getD 1 0, if LS.length < 3 then [] else nbS (LS.getD 1 []), ((LS.drop 2).dropLast).map nbS⟩ by unfold rdAS; rw [hLD])
  generalize nbS x0 = HN at *
  obtain ⟨hn, hhn⟩ : ∃ hn, HN.length = hn := ⟨_, rfl⟩
  rw [hhn] at ownh ⊢
  have c3 := (Below.refl w3.heap.size w3).alloc (Nat.le_refl _) (.cells #[.int .i64 (-1), .int .i64 (-1)] 2)
  have B3 := Blk.new w3 2 #[.int .i64 (-1), .int .i64 (-1)]
  have O3 := Lib.hid (ownh.alloc (.cells #[.int .i64 (-1), .int .i64 (-1)] 2))
  have b3 := Lib.hid ((b1.out.trans (hbh.mono b1.out.size)).trans (c3.mono (b1.out.trans (hbh.mono b1.out.size)).size))
  have L3 := Lib.hid (own_next (own_next L1.out hbh) c3)
  have R3 := Lib.hid ((R1.out.next hbh).next c3)
  have hnew : ∀ j u, (([-1, -1] : List Int).flatMap intE)[j]? = some u → (w3.alloc (.cells #[.int .i64 (-1), .int .i64 (-1)] 2)).cell? ((⟨w3.heap.size, 0, none⟩ : Addr).add j) = some u := fun j u hu => World.news_of_block (show (w3.alloc (.cells #[.int .i64 (-1), .int .i64 (-1)] 2)).heap[w3.heap.size]? = some (.cells #[.int .i64 (-1), .int .i64 (-1)] 2 (0, 0)) from B3) j u hu
  have HNew := Lib.hid hnew
  have hbs1 : w1.heap.size ≤ (w3.alloc (.cells #[.int .i64 (-1), .int .i64 (-1)] 2)).heap.size := by have := hbh.size; simp; omega
  clear ownh hbh l0 L1 R1 N0 hnew c3 B3
  go_wp2_with
    (at_builtin
     refine wpList_appG rfl _ _ _ rfl w1.heap.size 2 1 8 elem_int intE Ah hn ch HN rfl O3.out ⟨w3.heap.size, 0, none⟩ 2 2 [-1, -1] rfl rfl (by omega) HNew.out (fun _ _ => rfl) (by simp [intE, Value.oneCell']) (by omega) (by omega) (by unfold maxLen; omega) hbs1 ?_
     intro A4 c4 w4 own4 hg4 _
     have O4 := Lib.hid own4
     have L4 := Lib.hid (L3.out.kept hg4 (own_ne L3.out O3.out (by decide)))
     have R4 := Lib.hid (R3.out.grown hg4 (own_blk_ne O3.out R3.out (by decide)))
     have b4 := Lib.hid (b3.out.grown hg4 b3.out.size (fun g hg => by have := (O3.out.lt g hg).1; have := b1.out.size; omega))
     clear own4 hg4 L3 R3 b3 O3 HNew)
  obtain ⟨h0, h1, hr_, hHd⟩ := getD_app2 (l := HN) (a := -1) (b := -1)
  rw [hHd] at O4 HRd
  obtain ⟨hb_, hcap_, hvv, _, hbl_⟩ := O4.out.form (by omega)
  obtain rfl : A4 = some ⟨hb_, 0, none⟩ := by injection hvv
  have y0 : w4.cell? ⟨hb_, 0, none⟩ = some (.int .i64 h0) := by rw [O4.out.cellAt 0 (by omega)]; rfl
  have y1 : w4.cell? ⟨hb_, 1, none⟩ = some (.int .i64 h1) := by rw [O4.out.cellAt 1 (by omega)]; rfl
  have HS := Lib.hid (fun W (h : Below w4.heap.size w4 W) => show W.cell? ⟨hb_, 0, none⟩ = some (.int .i64 h0) ∧ W.cell? ⟨hb_, 1, none⟩ = some (.int .i64 h1) from
    ⟨(h.cell (p := ⟨hb_, 0, none⟩) hbl_).trans y0, (h.cell (p := ⟨hb_, 1, none⟩) hbl_).trans y1⟩)
  have HRd2 := Lib.hid (show rdAS LS = ⟨h0, h1, if m < 3 then [] else nbS (LS.getD 1 []), ((LS.drop 2).dropLast).map nbS⟩ by rw [HRd.out, hm]; rfl)
  have j0 : (0 : Int) < (hn : Int) + 2 := by omega
  have j1 : (1 : Int) < (hn : Int) + 2 := by omega
  clear y0 y1 hvv HRd hHd O4
  go_upto_region 5 with fail
  go_cut [6] (fun a_ wx => ∃ (ga : Nat), a_ = .pointer (some ⟨ga, 0, none⟩) ∧ Hid (RaW w wx ga h0 h1 none 0 0 [] none 0 0 [] [] lb m c1 LS))
  case first =>
      refine wp_region_N (fun W => W.cell? ⟨hb_, 0, none⟩ = some (.int .i64 h0) ∧ W.cell? ⟨hb_, 1, none⟩ = some (.int .i64 h1)) [8] (by kernel_rfl) ?_
      have c0 : Below w4.heap.size w4 w4.drew := (Below.refl _ _).drew
      have hS0 := HS.out _ c0
      generalize w4.drew = wd at *
      refine wpAnyN_take (i := 0) (v := ?_) rfl (by kernel_rfl) (fun _ _ _ h => h) (by rfl) (fun W hW => ?_) hS0 ?_
      rotate_left
      · obtain ⟨z0, z1⟩ := hW
        go_simp
        try with_reducible rfl
      try simp only [List.getElem_toArray, List.getElem_cons_zero, List.getElem_cons_succ, Act.put, List.setIfInBounds_toArray, List.set_cons_zero, List.set_cons_succ]
      refine wpAnyN_take (i := 1) (v := ?_) rfl (by kernel_rfl) (fun _ _ _ h => h) (by rfl) (fun W hW => ?_) hS0 ?_
      rotate_left
      · obtain ⟨z0, z1⟩ := hW
        go_simp
        try with_reducible rfl
      try simp only [List.getElem_toArray, List.getElem_cons_zero, List.getElem_cons_succ, Act.put, List.setIfInBounds_toArray, List.set_cons_zero, List.set_cons_succ]
      refine wpAnyN_take (i := 2) (v := ?_) rfl (by kernel_rfl) (fun _ _ _ h => h) (by rfl) (fun W hW => ?_) hS0 ?_
      rotate_left
      · obtain ⟨z0, z1⟩ := hW
        go_simp
        try with_reducible rfl
      try simp only [List.getElem_toArray, List.getElem_cons_zero, List.getElem_cons_succ, Act.put, List.setIfInBounds_toArray, List.set_cons_zero, List.set_cons_succ]
      refine wpAnyN_take (i := 3) (v := ?_) rfl (by kernel_rfl) (fun _ _ _ h => h) (by rfl) (fun W hW => ?_) hS0 ?_
      rotate_left
      · obtain ⟨z0, z1⟩ := hW
        go_simp
        try with_reducible rfl
      try simp only [List.getElem_toArray, List.getElem_cons_zero, List.getElem_cons_succ, Act.put, List.setIfInBounds_toArray, List.set_cons_zero, List.set_cons_succ]
      refine wpAnyN_take (i := 4) (v := ?_) rfl (by kernel_rfl) (fun _ _ _ h => h) (by rfl) (fun W hW => ?_) hS0 ?_
      rotate_left
      · obtain ⟨z0, z1⟩ := hW
        go_simp
        try with_reducible rfl
      try simp only [List.getElem_toArray, List.getElem_cons_zero, List.getElem_cons_succ, Act.put, List.setIfInBounds_toArray, List.set_cons_zero, List.set_cons_succ]
      refine wpAnyN_take (i := 5) (v := ?_) rfl (by kernel_rfl) (fun _ _ _ h => h) (by rfl) (fun W hW => ?_) hS0 ?_
      rotate_left
      · obtain ⟨z0, z1⟩ := hW
        go_simp
        try with_reducible rfl
      try simp only [List.getElem_toArray, List.getElem_cons_zero, List.getElem_cons_succ, Act.put, List.setIfInBounds_toArray, List.set_cons_zero, List.set_cons_succ]
      refine wpAnyN_take (i := 6) (v := ?_) rfl (by kernel_rfl) (fun _ _ _ h => h) (by rfl) (fun W hW => ?_) hS0 ?_
      rotate_left
      · obtain ⟨z0, z1⟩ := hW
        go_simp
        try with_reducible rfl
      try simp only [List.getElem_toArray, List.getElem_cons_zero, List.getElem_cons_succ, Act.put, List.setIfInBounds_toArray, List.set_cons_zero, List.set_cons_succ]
      clear hS0
      refine wpAnyN_next (i := 7) rfl (by kernel_rfl) (fun Kc hK => ?_)
      go_simp
      have ca_ : Below w4.heap.size w4 (wd.alloc (.cells #[.int .i64 0, .int .i64 0, .slice none 0 0, .slice none 0 0] 25)) := c0.alloc c0.size _
      have GA := Lib.hid (Blk.new wd 25 #[.int .i64 0, .int .i64 0, .slice none 0 0, .slice none 0 0])
      have hgl := c0.size
      obtain ⟨wa, hwa⟩ : ∃ x, x = wd.alloc (.cells #[.int .i64 0, .int .i64 0, .slice none 0 0, .slice none 0 0] 25) := ⟨_, rfl⟩
      obtain ⟨ga, hga⟩ : ∃ x, x = wd.heap.size := ⟨_, rfl⟩
      rw [← hga] at GA hgl
      rw [← hwa] at ca_ GA
      rw [← hwa, ← hga]
      clear hwa hga
      refine hK.out _ _ (fun _ => HS.out _ ca_) ?_
      clear hK Kc
      try simp only [List.getElem_toArray, List.getElem_cons_zero, List.getElem_cons_succ, Act.put, List.setIfInBounds_toArray, List.set_cons_zero, List.set_cons_succ]
      obtain ⟨g0, g1, g2, g3⟩ := GA.out.four
      have gf := GA.out.frozen
      have gl := GA.out.lt
      refine wpAnyN_next (i := 8) rfl (by kernel_rfl) (fun Kc hK => ?_)
      go_simp
      refine hK.out _ _ (fun h => absurd h (by decide)) ?_
      clear hK Kc
      try simp only [List.getElem_toArray, List.getElem_cons_zero, List.getElem_cons_succ, Act.put, List.setIfInBounds_toArray, List.set_cons_zero, List.set_cons_succ]
      refine wpAnyN_done (by kernel_rfl) ?_ _
      go_wp2_with fail
      go_meet
      exact ⟨ga, rfl, Lib.hid (RaW.made GA.out (R4.out.next ca_) (World.ownsRow_nil _ _ _ _) (own_next L4.out ca_) (by have := R4.out.lt; omega) (b4.out.trans (ca_.mono b4.out.size)))⟩
  case rest =>
    obtain ⟨ga, rfl, P⟩ := hcut
    clear HS R4 L4 b4 hbl_ j0 j1
    obtain ⟨F1, hF1⟩ : ∃ F1, nbS (LS.getD 1 []) = F1 := ⟨_, rfl⟩
    rw [hF1] at HRd2
    have HF1 := Lib.hid hF1
    have NBl := Lib.hid (fun x => nbS_len x)
    have P1 := Lib.hid (show RaW w wc ga h0 h1 none 0 0 [] none 0 0 [] (((LS.drop 2).take (0 - 1)).map nbS) lb m c1 LS by simpa using P.out)
    clear hF1 hlB hlb hcap hx0 P hLD hbs1
    go_wp2_with fail
    go_loopw [7] (fun i_ w' => ∃ (k : Nat) (F : Option Addr) (nf cf : Nat) (fin : List Int) (A : Option Addr) (n c : Nat) (hs : List RowH), i_ = .int .i64 ((k : Int) + 1) ∧ (k = 0 ∨ k + 2 ≤ m) ∧ n = k - 1 ∧ (k = 0 → A = none ∧ c = 0) ∧ Hid (fin = if k = 0 then [] else F1) ∧ Hid (fin.length = nf) ∧
      Hid (RaW w w' ga h0 h1 F nf cf fin A n c hs (((LS.drop 2).take (k - 1)).map nbS) lb m c1 LS)) (fun i_ _ => m - (intOf i_).toNat)
    case atStart => exact ⟨0, none, 0, 0, [], none, 0, 0, [], rfl, .inl rfl, rfl, fun _ => ⟨rfl, rfl⟩, Lib.hid rfl, Lib.hid rfl, P1⟩
    case round =>
      obtain ⟨k, F, nf, cf, fin, A, n, c, hs, rfl, hk, hnk, hA0, HFin, HFl, HP⟩ := hrel
      clear P1
      have u1 : IntKind.i64.wrap ((k : Int) + 1 + 1) = (k : Int) + 1 + 1 := IntWalk.i64_in _ (by omega)
      by_cases hlt : k + 2 < m
      · obtain ⟨x, hx⟩ : ∃ x, LS[k + 1]? = some x := ⟨_, List.getElem?_eq_getElem (by omega)⟩
        have hxm := List.mem_of_getElem? hx
        obtain ⟨lb', hlA, hlBr, _, _, RLr⟩ := pieces_at (w := w) (hbl.trans hm) (by omega) HP.out.l
        obtain rfl : lb = lb' := by injection hlA with hlA; injection hlA
        have l0 := RLr (k + 1) x hx
        have NX := Lib.hid (fun W => NB.out x hxm W)
        have i0 : (0 : Int) ≤ (k : Int) + 1 := by omega
        have i1 : (k : Int) + 1 < (m : Int) := by omega
        have i2 : (k : Int) + 1 + 1 < (m : Int) := by omega
        have i3 : ((k : Int) + 1).toNat = k + 1 := by omega
        have hrn2 := NBl.out x
        have hxs := hsm.out x hxm
        by_cases hk0 : k = 0
        · have hFx : nbS x = F1 := by
            rw [← HF1.out]; congr 1
            rw [List.getD_eq_getElem?_getD, show 1 = k + 1 by omega, hx]; rfl
          have e0 : ((k : Int) + 1 == 1) = true := by simp [hk0]
          have hn0 : n = 0 := by omega
          subst hn0
          have hs0 : hs = [] := List.eq_nil_of_length_eq_zero HP.out.t.lg
          subst hs0
          obtain ⟨rfl, rfl⟩ := hA0 hk0
          have hnil : ((LS.drop 2).take (k - 1)).map nbS = [] := by rw [hk0]; rfl
          have hnil2 : ((LS.drop 2).take (k + 1 - 1)).map nbS = [] := by rw [hk0]; rfl
          rw [hnil] at HP
          obtain ⟨rn, hrn⟩ : ∃ rn, (nbS x).length = rn := ⟨_, rfl⟩
          rw [hFx] at NX hrn
          have HRn := Lib.hid hrn
          have HK0 := Lib.hid hk0
          have HN2 := Lib.hid hnil2
          generalize (⟨x.toArray⟩ : ByteArray) = tx_ at *
          clear hrn hFx hx hxm RLr hlA hnil hnil2 hA0 hk0 hnk hrn2 HFin
          go_wp2_with fail
          refine (NX.out wr).mono ?_
          rintro e w6 ⟨G, cg, rfl, own6, hb6⟩
          rw [HRn.out] at own6 ⊢
          have P6 := Lib.hid (HP.out.next hb6)
          have P7 := Lib.hid (P6.out.fins (gin := F1) (own6.mono HP.out.be.size))
          obtain ⟨a0, a1, a2, a3⟩ := P6.out.a.four
          have af := P6.out.a.frozen
          have al := P6.out.a.lt
          clear own6 hb6 HP l0 e0
          go_wp2_with fail
          go_roundw
          case rel => exact ⟨k + 1, G, rn, cg, F1, none, 0, 0, [], by go_num, by omega, by have := HK0.out; omega, fun h => absurd h (by omega), Lib.hid (by rw [if_neg (by omega)]), HRn, Lib.hid (by rw [HN2.out]; exact P7.out)⟩
          case measure => simp [intOf]; omega
        · have e0 : ((k : Int) + 1 == 1) = false := by simp; omega
          have hx2 : (LS.drop 2)[k - 1]? = some x := by rw [List.getElem?_drop, show 2 + (k - 1) = k + 1 by omega]; exact hx
          have hsn := Lib.hid (show ((LS.drop 2).take (k + 1 - 1)).map nbS = ((LS.drop 2).take (k - 1)).map nbS ++ [nbS x] by
            rw [show k + 1 - 1 = (k - 1) + 1 by omega, List.take_add_one, hx2]; simp)
          obtain ⟨rn, hrn⟩ : ∃ rn, (nbS x).length = rn := ⟨_, rfl⟩
          generalize (⟨x.toArray⟩ : ByteArray) = tx_ at *
          generalize nbS x = row at *
          have HRn := Lib.hid hrn
          have HFin2 := Lib.hid (show fin = if k + 1 = 0 then [] else F1 by rw [HFin.out, if_neg hk0, if_neg (by omega)])
          have xl := HP.out.a.lt
          have hge := HP.out.hg
          have i4 : 0 ≤ (k : Int) := by omega
          have HS := Lib.hid (fun W (h : Below wr.heap.size wr W) => show W.cell? ⟨ga, 3, none⟩ = some (.slice A n c) ∧ W.cell? ⟨lb, k + 1, none⟩ = some (.string tx_) from ⟨(HP.out.a.next h).cell 3, (h.cell (p := ⟨lb, k + 1, none⟩) hlBr).trans l0⟩)
          have hnm : n < m := by omega
          have HNK := Lib.hid hnk
          clear RLr hlA hx hx2 hxm hrn hrn2 hA0 HFin l0 hnk
          go_upto_region 11 with fail
          refine wp_region_N (fun W => W.cell? ⟨ga, 3, none⟩ = some (.slice A n c) ∧ W.cell? ⟨lb, k + 1, none⟩ = some (.string tx_)) [10] (by kernel_rfl) ?_
          have c0 : Below wr.heap.size wr wr.drew := (Below.refl _ _).drew
          have hS0 := HS.out _ c0
          have P0 := Lib.hid (HP.out.next c0)
          generalize wr.drew = wd at *
          refine wpAnyN_take (i := 0) (v := ?_) rfl (by kernel_rfl) (fun _ _ _ h => h) (by rfl) (fun W hW => ?_) hS0 ?_
          rotate_left
          · obtain ⟨z0, z1⟩ := hW
            go_simp
            try with_reducible rfl
          try simp only [List.getElem_toArray, List.getElem_cons_zero, List.getElem_cons_succ, Act.put, List.setIfInBounds_toArray, List.set_cons_zero, List.set_cons_succ]
          refine wpAnyN_take (i := 1) (v := ?_) rfl (by kernel_rfl) (fun _ _ _ h => h) (by rfl) (fun W hW => ?_) hS0 ?_
          rotate_left
          · obtain ⟨z0, z1⟩ := hW
            go_simp
            try with_reducible rfl
          try simp only [List.getElem_toArray, List.getElem_cons_zero, List.getElem_cons_succ, Act.put, List.setIfInBounds_toArray, List.set_cons_zero, List.set_cons_succ]
          refine wpAnyN_take (i := 2) (v := ?_) rfl (by kernel_rfl) (fun _ _ _ h => h) (by rfl) (fun W hW => ?_) hS0 ?_
          rotate_left
          · obtain ⟨z0, z1⟩ := hW
            go_simp
            try with_reducible rfl
          try simp only [List.getElem_toArray, List.getElem_cons_zero, List.getElem_cons_succ, Act.put, List.setIfInBounds_toArray, List.set_cons_zero, List.set_cons_succ]
          refine wpAnyN_take (i := 3) (v := ?_) rfl (by kernel_rfl) (fun _ _ _ h => h) (by rfl) (fun W hW => ?_) hS0 ?_
          rotate_left
          · obtain ⟨z0, z1⟩ := hW
            go_simp
            try with_reducible rfl
          try simp only [List.getElem_toArray, List.getElem_cons_zero, List.getElem_cons_succ, Act.put, List.setIfInBounds_toArray, List.set_cons_zero, List.set_cons_succ]
          refine wpAnyN_take (i := 4) (v := ?_) rfl (by kernel_rfl) (fun _ _ _ h => h) (by rfl) (fun W hW => ?_) hS0 ?_
          rotate_left
          · obtain ⟨z0, z1⟩ := hW
            go_simp
            try with_reducible rfl
          try simp only [List.getElem_toArray, List.getElem_cons_zero, List.getElem_cons_succ, Act.put, List.setIfInBounds_toArray, List.set_cons_zero, List.set_cons_succ]
          refine wpAnyN_take (i := 5) (v := ?_) rfl (by kernel_rfl) (fun _ _ _ h => h) (by rfl) (fun W hW => ?_) hS0 ?_
          rotate_left
          · obtain ⟨z0, z1⟩ := hW
            go_simp
            try with_reducible rfl
          try simp only [List.getElem_toArray, List.getElem_cons_zero, List.getElem_cons_succ, Act.put, List.setIfInBounds_toArray, List.set_cons_zero, List.set_cons_succ]
          clear hS0
          refine wpAnyN_next (i := 6) rfl (by kernel_rfl) (fun Kc hK => ?_)
          go_simp
          go_wp2_with (go_at_call 10; refine (NX.out wd).mono ?_; rintro e w6 ⟨rA, rc, rfl, own6, hb6⟩; rw [HRn.out] at own6 ⊢)
          have c6 : Below wr.heap.size wr w6 := c0.trans (hb6.mono c0.size)
          have O6 := Lib.hid own6
          have P6 := Lib.hid (P0.out.next hb6)
          clear own6
          refine hK.out _ _ (fun _ => HS.out _ c6) ?_
          clear hK Kc
          try simp only [List.getElem_toArray, List.getElem_cons_zero, List.getElem_cons_succ, Act.put, List.setIfInBounds_toArray, List.set_cons_zero, List.set_cons_succ]
          refine wpAnyN_next (i := 7) rfl (by kernel_rfl) (fun Kc hK => ?_)
          go_simp
          have c7 : Below wr.heap.size wr (w6.alloc (.cells #[.slice rA rn rc] 22)) := c6.alloc c6.size _
          have P7 := Lib.hid (P6.out.alloc (.cells #[.slice rA rn rc] 22))
          have O7 := Lib.hid (O6.out.alloc (.cells #[.slice rA rn rc] 22))
          refine hK.out _ _ (fun _ => HS.out _ c7) ?_
          clear hK Kc
          try simp only [List.getElem_toArray, List.getElem_cons_zero, List.getElem_cons_succ, Act.put, List.setIfInBounds_toArray, List.set_cons_zero, List.set_cons_succ]
          refine wpAnyN_next (i := 8) rfl (by kernel_rfl) (fun Kc hK => ?_)
          refine step_push (by rfl) _ _ _ (by rfl) w.heap.size 22 1 24 elemT encR A n c hs (by rfl) P7.out.t.o w6.heap.size (⟨rA, rn, rc⟩ : RowH) #[.slice rA rn rc] 22 (0, 0) (by rfl) (heap_alloc_new _ _) rfl rfl (by simp [encR, Value.oneCell']) (by omega) (by omega) (by unfold maxLen; omega) P7.out.be.size ?_
          intro A8 cc8 w8 own8 hg8 _
          have hfar := P0.out.t.fresh (q := ⟨rA, rn, rc⟩) O6.out (Nat.le_refl _)
          have hff : ∀ g, (Value.slice rA rn rc).ownBlock = some g → (Value.slice F nf cf).ownBlock ≠ some g := fun g h1 h2 => by
            have e1 := (P0.out.f.lt g h2).2
            have e2 := (O6.out.lt g h1).1
            omega
          have P8 := Lib.hid (P7.out.push (p := ⟨rA, rn, rc⟩) (O7.out.mono P0.out.be.size) HRn.out hfar hff own8 hg8)
          have a8 := Lib.hid (P7.out.a.grown hg8 (own_blk_ne P7.out.t.o P7.out.a (by decide)))
          have l8 := hg8.cell ((HS.out _ c7).2) (a := ⟨lb, k + 1, none⟩) (by
            intro e
            have h1 := own_ne P7.out.l P7.out.t.o (by decide)
            rcases h1 with h1 | h1
            · cases h1
            · exact h1 e)
          clear own8 hg8 hfar hff c6 O6 P6 c7 P7 O7
          refine hK.out _ _ (fun _ => ⟨a8.out.cell 3, l8⟩) ?_
          clear hK Kc
          try simp only [List.getElem_toArray, List.getElem_cons_zero, List.getElem_cons_succ, Act.put, List.setIfInBounds_toArray, List.set_cons_zero, List.set_cons_succ]
          have g0 := a8.out.cell 3
          have gf := a8.out.frozen 3
          have gl := a8.out.lt
          refine wpAnyN_next (i := 9) rfl (by kernel_rfl) (fun Kc hK => ?_)
          go_simp
          refine hK.out _ _ (fun _ => ⟨a8.out.cell 3, l8⟩) ?_
          clear hK Kc
          try simp only [List.getElem_toArray, List.getElem_cons_zero, List.getElem_cons_succ, Act.put, List.setIfInBounds_toArray, List.set_cons_zero, List.set_cons_succ]
          refine wpAnyN_next (i := 10) rfl (by kernel_rfl) (fun Kc hK => ?_)
          go_simp
          refine hK.out _ _ (fun h => absurd h (by decide)) ?_
          clear hK Kc
          try simp only [List.getElem_toArray, List.getElem_cons_zero, List.getElem_cons_succ, Act.put, List.setIfInBounds_toArray, List.set_cons_zero, List.set_cons_succ]
          refine wpAnyN_done (by kernel_rfl) ?_ _
          go_wp2_with fail
          go_roundw
          case rel => exact ⟨k + 1, F, nf, cf, fin, A8, n + 1, _, _, by go_num, by omega, by have := HNK.out; omega, fun h => absurd h (by omega), HFin2, HFl, Lib.hid (by rw [hsn.out]; exact P8.out)⟩
          case measure => simp [intOf]; omega
      · have i2 : ¬ (k : Int) + 1 + 1 < (m : Int) := by omega
        have hNX : ((LS.drop 2).take (k - 1)).map nbS = ((LS.drop 2).dropLast).map nbS := by
          congr 1
          rw [List.dropLast_eq_take, List.length_drop]
          by_cases h0 : k = 0
          · have h3 : LS.drop 2 = [] := List.drop_of_length_le (by omega)
            rw [h3]; simp
          · congr 1; omega
        have hFF : fin = if m < 3 then [] else F1 := by
          rw [HFin.out]
          by_cases h0 : k = 0
          · rw [if_pos h0, if_pos (by omega)]
          · rw [if_neg h0, if_neg (by omega)]
        rw [← hFF, ← hNX] at HRd2
        have hNXl : (((LS.drop 2).take (k - 1)).map nbS).length = n := by rw [List.length_map, List.length_take, List.length_drop]; omega
        have HSz := Lib.hid (show n ≤ 1048576 ∧ nf ≤ 1048576 from ⟨by omega, by
          have hz : F1.length ≤ 3000 := by
            rw [← HF1.out]
            have h1 := NBl.out (LS.getD 1 [])
            have h2 : (LS.getD 1 []).length ≤ s.size := by
              rw [List.getD_eq_getElem?_getD]
              rcases h : LS[1]? with _ | y
              · show (0 : Nat) ≤ _; omega
              · exact hsm.out y (List.mem_of_getElem? h)
            omega
          rw [← HFl.out, hFF]
          split
          · show (0 : Nat) ≤ _; omega
          · omega⟩)
        generalize ((LS.drop 2).take (k - 1)).map nbS = NX at *
        have RT := Lib.hid (HP.out.t.rd (fun _ => rfl))
        have RF := Lib.hid (Rd.of_own (enc := intE) (fun _ _ => rfl) HFl.out HP.out.f)
        have VA := Lib.hid (l04Ok_any ga h0 h1 F nf cf fin A n c hs NX wr HP.out.a HSz.out.2 HSz.out.1 RF.out RT.out _ rfl)
        have e3 := Lib.hid (show ansS s = if auB ⟨h0, h1, fin, NX⟩ = true ∧ auT ⟨h0, h1, fin, NX⟩ = s.data.toList then (some ⟨h0, h1, fin, NX⟩, 0) else (none, 5) by rw [e1.out, HRd2.out])
        have hNXl2 := Lib.hid hNXl
        clear hsm NBl HRd2 NB e1 hNX hFF HF1 hNXl hA0 HFin hnk
        rcases hav : auB ⟨h0, h1, fin, NX⟩ with _ | _
        · rw [hav] at VA
          have e4 := Lib.hid (show ansA (ansS s) = (auN, 5) by rw [e3.out, if_neg (by rw [hav]; simp)]; rfl)
          clear e3 hav
          go_wp2_with fail
          refine VA.out.mono ?_
          rintro e w5 ⟨rfl, hb5⟩
          have P5 := Lib.hid (HP.out.next hb5)
          clear hb5
          obtain ⟨r0, r1, r2, r3⟩ := P5.out.r.four
          have rf := P5.out.r.frozen
          have rl := P5.out.r.lt
          go_wp2_with fail
          rw [e4.out]
          obtain ⟨q0, q1, q2, q3⟩ := (P5.out.r.set4 (.int .i64 0) (.int .i64 0) (.slice none 0 0) (.slice none 0 0)).four
          unfold set4 at q0 q1 q2 q3
          exact bodyPost_ret (v := .tuple #[.agg #[.int .i64 0, .int .i64 0, .slice none 0 0, .slice none 0 0], .int .i64 5]) (by simp [results, Tryd.results4, go_sem, q0, q1, q2, q3]) rfl (au_err 5 ((below_of_gb P5.out.be (gb_set4 w5 w.heap.size (.int .i64 0) (.int .i64 0) (.slice none 0 0) (.slice none 0 0))) (Nat.le_refl _)))
        · rw [hav] at VA
          have TX := Lib.hid (fun W (h : Below wr.heap.size wr W) => l04Text_any ga h0 h1 F nf cf fin A n c hs NX W (HP.out.a.next h) (RF.out.next h) (RT.out.next h) hav)
          have e4 := Lib.hid (show ansS s = if autS ⟨h0, h1, fin, NX⟩ = s then (some ⟨h0, h1, fin, NX⟩, 0) else (none, 5) by
            rw [e3.out]
            by_cases h : auT ⟨h0, h1, fin, NX⟩ = s.data.toList
            · rw [if_pos ⟨hav, h⟩, if_pos (by unfold autS; rw [h]; exact bt_data s)]
            · rw [if_neg (fun q => h q.2), if_neg (fun q => h (by rw [← q]; rfl))])
          generalize autS ⟨h0, h1, fin, NX⟩ = T at *
          clear e3 hav
          go_wp2_with fail
          refine VA.out.mono ?_
          rintro e w5 ⟨rfl, hb5⟩
          have P5 := Lib.hid (HP.out.next hb5)
          have TX5 := Lib.hid (TX.out w5 hb5)
          clear hb5
          go_wp2_with fail
          refine TX5.out.mono ?_
          rintro e w6 ⟨rfl, hb6⟩
          have P6 := Lib.hid (P5.out.next hb6)
          clear hb6 P5
          obtain ⟨a0, a1, a2, a3⟩ := P6.out.a.four
          have al := P6.out.a.lt
          obtain ⟨r0, r1, r2, r3⟩ := P6.out.r.four
          have rf := P6.out.r.frozen
          have rl := P6.out.r.lt
          by_cases hT : T = s
          · have e5 := Lib.hid (show ansA (ansS s) = (⟨h0, h1, fin, NX⟩, 0) by rw [e4.out, if_pos hT]; rfl)
            clear e4
            subst hT
            go_wp2_with fail
            rw [e5.out]
            obtain ⟨q0, q1, q2, q3⟩ := (P6.out.r.set4 (.int .i64 h0) (.int .i64 h1) (.slice F nf cf) (.slice A n c)).four
            unfold set4 at q0 q1 q2 q3
            have HD := RaW.done P6.out HFl.out hNXl2.out
            exact bodyPost_ret (v := .tuple #[.agg #[.int .i64 h0, .int .i64 h1, .slice F nf cf, .slice A n c], .int .i64 0]) (by simp [results, Tryd.results4, go_sem, q0, q1, q2, q3]) rfl HD
          · have hTl : (T.toList == s.toList) = false := by rw [tl_beq]; simpa using hT
            have hTn : ¬ T.toList = s.toList := by rw [tl_inj]; exact hT
            have e5 := Lib.hid (show ansA (ansS s) = (auN, 5) by rw [e4.out, if_neg hT]; rfl)
            clear e4 hT
            go_wp2_with fail
            rw [e5.out]
            obtain ⟨q0, q1, q2, q3⟩ := (P6.out.r.set4 (.int .i64 0) (.int .i64 0) (.slice none 0 0) (.slice none 0 0)).four
            unfold set4 at q0 q1 q2 q3
            exact bodyPost_ret (v := .tuple #[.agg #[.int .i64 0, .int .i64 0, .slice none 0 0, .slice none 0 0], .int .i64 5]) (by simp [results, Tryd.results4, go_sem, q0, q1, q2, q3]) rfl (au_err 5 ((below_of_gb P6.out.be (gb_set4 w6 w.heap.size (.int .i64 0) (.int .i64 0) (.slice none 0 0) (.slice none 0 0))) (Nat.le_refl _)))
end Go.Proofs.YtcpofhjoblgmgaaDoor
