/-
  HalvingGrammar in the reference: the method that calls itself.
-/
import Derived.Test.YtikhjoianbndhaaHvP
namespace Go.Proofs.Ytikhjoianbndhaa
open Go.RowKit

section
variable {α : Type} {P : Program} {w : World} {ops : Array Oper} {o : Oper} {a : Act} {K : Act → World → Prop} {Q : Exit → Act → World → Prop} {E : Prop}
/-- one element more, as a step of a region that draws its order; where the row lies then -/
theorem step_pushB (hgd : o.guard = none) (s x : Operand) (t : TypeId) (ho : o.op = .call { callee := .builtin .append, args := #[s, x], argTypes := #[t, t] })
    (base : Nat) (e : TypeId) (sz bytes : Nat) (EI : Elem P t e sz bytes) (enc : α → List Value) (A : Option Addr) (n c : Nat) (xs : List α) (hs : a.eval s = .slice A n c)
    (hown : w.ownsRow base e sz (.slice A n c) n (xs.flatMap enc)) (g : Nat) (y : α) (cs : Array Value) (t' : TypeId) (fr : Nat × Nat) (hx : a.eval x = .slice (some ⟨g, 0, none⟩) 1 1) (hg : w.heap[g]? = some (.cells cs t' fr)) (hcs : cs.toList = enc y)
    (hlen : (enc y).length = sz) (hone : ∀ u ∈ enc y, u.oneCell' = true) (hsz : 0 < sz) (hbytes : (n + 1) * bytes ≤ 140737488355328) (hm : n + 1 ≤ maxLen) (hsize : base ≤ w.heap.size)
    (h : ∀ A' c' w', w'.ownsRow base e sz (.slice A' (n + 1) c') (n + 1) ((xs ++ [y]).flatMap enc) → w.grownBy w' (Value.slice A n c).ownBlock →
      ((Value.slice A' (n + 1) c').ownBlock = (Value.slice A n c).ownBlock ∨ (Value.slice A' (n + 1) c').ownBlock = some w.heap.size) →
      K (a.put o.dst (.slice A' (n + 1) c')) w') : if Region.wanted o (yielded ops a.tmps) = true then Oper.wp P o a w K Q else E := by
  obtain ⟨ht, i, z, hi, hz, h1, h2, hzs⟩ := EI
  have hnews : ∀ j u, (enc y)[j]? = some u → w.cell? ((⟨g, 0, none⟩ : Addr).add j) = some u := by rw [← hcs]; exact World.news_of_block hg
  obtain ⟨v', w', hr, r2, r3, _, r5⟩ := run_append_own_at (P := P) w base t o.type e i z sz bytes ht hi hz h1 h2 hzs hsz _ n _ hown ⟨g, 0, none⟩ 1 1 (enc y) (by rw [hlen]; omega) hnews hone hm hbytes hsize
  obtain ⟨g', cap, rfl, _, _⟩ := r2.form (by omega)
  have hw : Region.wanted o (yielded ops a.tmps) = true := by simp [Region.wanted, hgd]
  rw [if_pos hw]
  unfold Oper.wp execOp
  simp only [ho, resolve, invoke, builtin, Sem.run_bind, Sem.run_pure, Result.andThen_ok, List.map_toArray, List.map_cons, List.map_nil, hs, hx, hr]
  exact h _ _ w' (by rw [List.flatMap_append]; simpa using r2) r3 r5
end
/-- the reference's maker under way -/
structure HsW (w0 W : World) (X : Nat) (A : Option Addr) (n c : Nat) (ws : List ByteArray) (B : Option Addr) (m d : Nat) (rs : List Fac) : Prop where
  q : W.ownsRow w0.heap.size 9 1 (.slice A n c) n (ws.flatMap strE)
  l : W.ownsRow w0.heap.size 44 3 (.slice B m d) m (rs.flatMap Fac.cells)
  x : Blk W X 63 #[.slice A n c, .slice B m d]
  e : Below w0.heap.size w0 W
  hx : w0.heap.size ≤ X
/-- what a call leaves as it was -/
structure HsF (W W' : World) (X : Nat) (v v' u u' : Value) : Prop where
  size : W.heap.size ≤ W'.heap.size
  kept : ∀ x, x < W.heap.size → x ≠ X → some x ≠ v.ownBlock → some x ≠ u.ownBlock → W'.heap[x]? = W.heap[x]?
  row : v'.ownBlock = v.ownBlock ∨ ∀ x, v'.ownBlock = some x → W.heap.size ≤ x
  row' : u'.ownBlock = u.ownBlock ∨ ∀ x, u'.ownBlock = some x → W.heap.size ≤ x
section
variable {w0 W W' W'' : World} {X : Nat} {A : Option Addr} {n c : Nat} {ws : List ByteArray} {B : Option Addr} {m d : Nat} {rs : List Fac} {v v' v'' u u' u'' : Value}
theorem HsF.of_below (hb : Below W.heap.size W W') : HsF W W' X v v u u := ⟨hb.size, fun x hx _ _ _ => hb.block x hx, .inl rfl, .inl rfl⟩
theorem HsF.trans (h1 : HsF W W' X v v' u u') (h2 : HsF W' W'' X v' v'' u' u'') : HsF W W'' X v v'' u u'' := by
  refine ⟨Nat.le_trans h1.size h2.size, fun x hx hX hv hu => ?_, ?_, ?_⟩
  · rw [h2.kept x (Nat.lt_of_lt_of_le hx h1.size) hX (fun e => ?_) (fun e => ?_), h1.kept x hx hX hv hu]
    · rcases h1.row with q | q
      · rw [q] at e; exact hv e
      · have := q x e.symm; omega
    · rcases h1.row' with q | q
      · rw [q] at e; exact hu e
      · have := q x e.symm; omega
  · rcases h2.row with q | q
    · rw [q]; exact h1.row
    · exact .inr fun x hx => Nat.le_trans h1.size (q x hx)
  · rcases h2.row' with q | q
    · rw [q]; exact h1.row'
    · exact .inr fun x hx => Nat.le_trans h1.size (q x hx)
theorem HsF.of_grown (hg : W.grownBy W' v.ownBlock) (hat : v'.ownBlock = v.ownBlock ∨ v'.ownBlock = some W.heap.size) : HsF W W' X v v' u u :=
  ⟨hg.4, fun x hx _ hv _ => hg.block x hx hv, hat.imp id fun e x hx => by rw [e] at hx; injection hx with hx; omega, .inl rfl⟩
theorem HsF.of_grown' (hg : W.grownBy W' u.ownBlock) (hat : u'.ownBlock = u.ownBlock ∨ u'.ownBlock = some W.heap.size) : HsF W W' X v v u u' :=
  ⟨hg.4, fun x hx _ _ hu => hg.block x hx hu, .inl rfl, hat.imp id fun e x hx => by rw [e] at hx; injection hx with hx; omega⟩
theorem HsF.setX (h : HsF W W' X v v' u u') (i : Nat) (z : Value) : HsF W (W'.setCell ⟨X, i, none⟩ z) X v v' u u' := by
  refine ⟨by have := h.size; have h2 := (gb_set W' X i z).4; omega, fun y hy hX hv hu => ?_, h.row, h.row'⟩
  rw [Below.heap_setCell W' ⟨X, i, none⟩ z y hX]
  exact h.kept y hy hX hv hu
theorem HsF.box (h : HsF W W' X v v' u u') {x : Nat} (hx : W.heap.size ≤ x) (i : Nat) (z : Value) : HsF W (W'.setCell ⟨x, i, none⟩ z) X v v' u u' := by
  refine ⟨by have := h.size; have h2 := (gb_set W' x i z).4; omega, fun y hy hX hv hu => ?_, h.row, h.row'⟩
  rw [Below.heap_setCell W' ⟨x, i, none⟩ z y (show y ≠ x by omega)]
  exact h.kept y hy hX hv hu
theorem HsF.blk (h : HsF W W' X v v' u u') {x : Nat} {t : TypeId} {cs : Array Value} (hB : Blk W x t cs) (hX : x ≠ X) (hv : some x ≠ v.ownBlock) (hu : some x ≠ u.ownBlock) : Blk W' x t cs := (h.kept x hB.lt hX hv hu).trans hB
theorem HsW.next (h : HsW w0 W X A n c ws B m d rs) (hb : Below W.heap.size W W') : HsW w0 W' X A n c ws B m d rs :=
  ⟨own_next h.q hb, own_next h.l hb, h.x.next hb, h.e.trans (hb.mono h.e.size), h.hx⟩
theorem HsW.alloc (h : HsW w0 W X A n c ws B m d rs) (o : Obj) : HsW w0 (W.alloc o) X A n c ws B m d rs := h.next ((Below.refl _ _).alloc (Nat.le_refl _) _)
theorem HsW.box (h : HsW w0 W X A n c ws B m d rs) {x : Nat} (hx : w0.heap.size ≤ x) (hX : x ≠ X) (hv : some x ≠ (Value.slice A n c).ownBlock) (hu : some x ≠ (Value.slice B m d).ownBlock) (i : Nat) (z : Value) : HsW w0 (W.setCell ⟨x, i, none⟩ z) X A n c ws B m d rs := by
  refine ⟨h.q.kept (gb_set W x i z) ?_, h.l.kept (gb_set W x i z) ?_, h.x.far (Ne.symm hX) z, h.e.setCell hx z, h.hx⟩
  · cases hq : (Value.slice A n c).ownBlock with
    | none => exact .inl rfl
    | some q => exact .inr fun e => hv (by rw [hq]; exact e.symm)
  · cases hq : (Value.slice B m d).ownBlock with
    | none => exact .inl rfl
    | some q => exact .inr fun e => hu (by rw [hq]; exact e.symm)
theorem HsW.pushW {A8 : Option Addr} {k8 c8 : Nat} {ws' : List ByteArray} (h : HsW w0 W X A n c ws B m d rs) (hq : W'.ownsRow w0.heap.size 9 1 (.slice A8 k8 c8) k8 (ws'.flatMap strE)) (hg : W.grownBy W' (Value.slice A n c).ownBlock) :
    HsW w0 (W'.setCell ⟨X, 0, none⟩ (.slice A8 k8 c8)) X A8 k8 c8 ws' B m d rs := by
  have hx' := h.x.grown hg (own_blk_ne h.q h.x (by decide))
  have hl' := h.l.kept hg (own_ne h.l h.q (by decide))
  have he' := h.e.grown hg h.e.size (own_ge h.q)
  exact ⟨own_kept' hq hx' (by decide) _, own_kept' hl' hx' (by decide) _, hx'.set_ 0 _, he'.setCell h.hx _, h.hx⟩
theorem HsW.pushR {B8 : Option Addr} {k8 c8 : Nat} {rs' : List Fac} (h : HsW w0 W X A n c ws B m d rs) (hq : W'.ownsRow w0.heap.size 44 3 (.slice B8 k8 c8) k8 (rs'.flatMap Fac.cells)) (hg : W.grownBy W' (Value.slice B m d).ownBlock) :
    HsW w0 (W'.setCell ⟨X, 1, none⟩ (.slice B8 k8 c8)) X A n c ws B8 k8 c8 rs' := by
  have hx' := h.x.grown hg (own_blk_ne h.l h.x (by decide))
  have hq' := h.q.kept hg (own_ne h.q h.l (by decide))
  have he' := h.e.grown hg h.e.size (own_ge h.l)
  exact ⟨own_kept' hq' hx' (by decide) _, own_kept' hq hx' (by decide) _, hx'.set_ 1 _, he'.setCell h.hx _, h.hx⟩
end
/-- what a call of the method answers -/
def HsP (w0 W : World) (X : Nat) (v u : Value) (s : ByteArray) (st : HvS) (e : Ending) (W' : World) : Prop :=
  (st.rs.length ≤ 400 ∧ ∃ A c B d, e = .returned (.int .i64 (findS s st.ws 0)) ∧ HsW w0 W' X A st.ws.length c st.ws B st.rs.length d st.rs ∧ HsF W W' X v (.slice A st.ws.length c) u (.slice B st.rs.length d)) ∨
    (400 < st.rs.length ∧ e = .returned (.int .i64 (-1)) ∧ Below w0.heap.size w0 W')
set_option maxHeartbeats 4000000 in
set_option maxRecDepth 100000 in
theorem halves_any (w0 : World) (X : Nat) : ∀ (k : Nat) (s : ByteArray) (st : HvS) (A : Option Addr) (n c : Nat) (B : Option Addr) (d : Nat) (W : World), s.size = k → WordOk s → HvI st → st.rs.length = n → n ≤ 400 → HsW w0 W X A n c st.ws B n d st.rs →
    Calls Try.prog 38 #[.pointer (some ⟨X, 0, none⟩), .string s] W (HsP w0 W X (.slice A n c) (.slice B n d) s (hv s st)) := by
  intro k
  induction k using Nat.strongRecOn with
  | ind k ih =>
    intro s st A n c B d W hk hw hi hn hn4 hW
    subst hk
    have IH := Lib.hid ih; clear ih
    have P0 := Lib.hid hW
    have HN := Lib.hid hn
    have HI := Lib.hid hi
    have HWd := Lib.hid hw
    have hs1 := hw.1
    have hs2 := hw.2.1
    have HNw := Lib.hid (show st.ws.length = n by rw [← hi.len]; exact hn)
    have xc0 := P0.out.x.cell 0
    have xc1 := P0.out.x.cell 1
    have xl := P0.out.x.lt
    have RW := Lib.hid (Rd.of_own (enc := strE) (fun _ _ => rfl) HNw.out P0.out.q)
    have HF0 := Lib.hid (show findS s (st.ws.drop 0) 0 = findS s st.ws 0 from rfl)
    clear hW hi hn hw
    go_enter Try.func38, Try.ntmps38
    go_wp2_with fail
    go_loop [5] (fun i_ => ∃ j : Nat, i_ = .int .i64 j ∧ j ≤ n ∧ Hid (findS s (st.ws.drop j) j = findS s st.ws 0)) (fun i_ => n - (intOf i_).toNat)
    case atStart => exact ⟨0, rfl, by omega, HF0⟩
    case round =>
      obtain ⟨j, rfl, hj, HF⟩ := hrel
      clear HF0
      by_cases hlt : j < n
      · obtain ⟨b, o, x, rfl, hB, gx, c0⟩ := RW.out.str hlt
        have H' := Lib.hid (show (if x = s then (j : Int) else findS s (st.ws.drop (j + 1)) (j + 1)) = findS s st.ws 0 by rw [← HF.out, drop_cons gx]; rfl)
        have HX := Lib.hid (List.mem_of_getElem? gx)
        have j0 : (0 : Int) ≤ (j : Int) := by omega
        have j1 : (j : Int) < (n : Int) := by omega
        clear gx HF
        by_cases hx : x = s
        · obtain rfl := hx
          have e := Lib.hid (hv_old HX.out)
          have hfe := H'.out
          rw [if_pos rfl] at hfe
          have HFe := Lib.hid hfe
          clear hfe
          go_wp2_with fail
          go_ret
          rw [e.out]
          exact .inl ⟨by rw [HN.out]; exact hn4, _, c, B, d, by rw [← HFe.out]; rfl, by rw [HN.out, HNw.out]; exact P0.out, by rw [HN.out, HNw.out]; exact HsF.of_below (Below.refl _ _)⟩
        · have hx' : (x.toList == s.toList) = false := by rw [tl_beq]; simpa using hx
          have hx2 : ¬ x.toList = s.toList := by rw [tl_inj]; exact hx
          have Hx := Lib.hid hx; clear hx
          go_wp2_with fail
          go_round
          case rel => exact ⟨j + 1, by go_num, by omega, Lib.hid (by rw [← H'.out, if_neg Hx.out]; rfl)⟩
          case measure => simp [intOf]; omega
      · have hno : findS s st.ws 0 = -1 := by rw [← HF.out, List.drop_of_length_le (by have := HNw.out; omega)]; rfl
        have hmem : s ∉ st.ws := fun h => by have := (findS_lt h).1; omega
        have HMem := Lib.hid hmem
        obtain ⟨h, hh⟩ : ∃ h, (s.size + 1) / 2 = h := ⟨_, rfl⟩
        have u1 : IntKind.i64.wrap ((s.size : Int) + 1) = (s.size : Int) + 1 := IntWalk.i64_in _ (by omega)
        have u2 : Int.tdiv ((s.size : Int) + 1) 2 = (h : Int) := by rw [Int.tdiv_eq_ediv_of_nonneg (by omega)]; omega
        have u3 : IntKind.i64.wrap (h : Int) = (h : Int) := IntWalk.i64_in _ (by omega)
        have P1 := Lib.hid (P0.out.alloc (.cells #[.string s, .int .i64 0, .int .i64 0] 44))
        have BX1 := Lib.hid (Blk.new W 44 #[.string s, .int .i64 0, .int .i64 0])
        have F1 := Lib.hid (HsF.of_below (X := X) (v := .slice A n c) (u := .slice B n d) ((Below.refl W.heap.size W).alloc (Nat.le_refl _) (.cells #[.string s, .int .i64 0, .int .i64 0] 44)))
        have HH := Lib.hid hh
        clear hno hmem hh HF
        go_upto_if 33 with fail
        clear xc0 xc1 xl
        go_cut [] (fun wx => ∃ (A2 : Option Addr) (n2 c2 : Nat) (B2 : Option Addr) (d2 : Nat) (st2 : HvS) (y : Fac), Hid (HsW w0 wx X A2 n2 c2 st2.ws B2 n2 d2 st2.rs) ∧ Hid (Blk wx W.heap.size 44 #[.string y.l, .int .i64 y.a, .int .i64 y.b]) ∧
          Hid (HsF W wx X (.slice A n c) (.slice A2 n2 c2) (.slice B n d) (.slice B2 n2 d2)) ∧ Hid (hv s st = ⟨st2.ws ++ [s], st2.rs ++ [y]⟩) ∧ Hid (s ∉ st2.ws) ∧ Hid (st2.rs.length = n2) ∧ Hid (st2.ws.length = n2) ∧ n2 ≤ 400)
        case first =>
          by_cases h1 : 1 < s.size
          · have eL := hvL_size s
            have eR := hvR_size s
            rw [HH.out] at eL eR
            have hh := HH.out
            have exL : s.extract 0 h = hvL s := by unfold hvL; rw [hh]
            have exR : s.extract h s.size = hvR s := by unfold hvR; rw [hh]
            have hwL : WordOk (hvL s) := wordOk_part HWd.out (show 0 < (hvL s).size by omega)
            have hwR : WordOk (hvR s) := wordOk_part HWd.out (show 0 < (hvR s).size by omega)
            have dL := hv_do (hvL s).size (hvL s) st rfl hwL HI.out
            have hR : ∀ A3 n3 c3 B3 d3 (W3 : World), (hv (hvL s) st).rs.length = n3 → n3 ≤ 400 → HsW w0 W3 X A3 n3 c3 (hv (hvL s) st).ws B3 n3 d3 (hv (hvL s) st).rs →
                Calls Try.prog 38 #[.pointer (some ⟨X, 0, none⟩), .string (s.extract h s.size)] W3 (HsP w0 W3 X (.slice A3 n3 c3) (.slice B3 n3 d3) (hvR s) (hv (hvR s) (hv (hvL s) st))) := by
              intro A3 n3 c3 B3 d3 W3 h1 h2
              rw [exR]
              exact IH.out (hvR s).size (by omega) (hvR s) (hv (hvL s) st) A3 n3 c3 B3 d3 W3 rfl hwR dL.i h1 h2
            have hL : Calls Try.prog 38 #[.pointer (some ⟨X, 0, none⟩), .string (s.extract 0 h)] (W.alloc (.cells #[.string s, .int .i64 0, .int .i64 0] 44))
                (HsP w0 (W.alloc (.cells #[.string s, .int .i64 0, .int .i64 0] 44)) X (.slice A n c) (.slice B n d) (hvL s) (hv (hvL s) st)) := by
              rw [exL]
              exact IH.out (hvL s).size (by omega) (hvL s) st A n c B d (W.alloc (.cells #[.string s, .int .i64 0, .int .i64 0] 44)) rfl hwL HI.out HN.out hn4 P1.out
            have hpe := hv_pair HMem.out h1
            have dR := hv_do (hvR s).size (hvR s) (hv (hvL s) st) rfl hwR dL.i
            have hne : s ∉ (hv (hvR s) (hv (hvL s) st)).ws := by
              obtain ⟨ex1, e1, x1⟩ := dL.ext
              obtain ⟨ex2, e2, x2⟩ := dR.ext
              rw [e2, e1]
              intro h
              rcases List.mem_append.1 h with h | h
              · rcases List.mem_append.1 h with h | h
                · exact HMem.out h
                · have := x1 s h; omega
              · have := x2 s h; omega
            have fL := findS_lt dL.mem
            have fR := findS_lt dR.mem
            have ll := dL.i.len
            have lr := dR.i.len
            have hgr := dR.grow
            have HR := Lib.hid hR
            have HL := Lib.hid hL
            have HPe := Lib.hid hpe
            have HNe := Lib.hid hne
            generalize hv (hvR s) (hv (hvL s) st) = s2 at *
            generalize hv (hvL s) st = s1 at *
            obtain ⟨n1, hn1⟩ : ∃ n1, s1.rs.length = n1 := ⟨_, rfl⟩
            obtain ⟨n2, hn2e⟩ : ∃ n2, s2.rs.length = n2 := ⟨_, rfl⟩
            obtain ⟨a, ha⟩ : ∃ a, findS (hvL s) s1.ws 0 = a := ⟨_, rfl⟩
            obtain ⟨b, hb⟩ : ∃ b, findS (hvR s) s2.ws 0 = b := ⟨_, rfl⟩
            rw [ha] at fL HPe
            rw [hb] at fR HPe
            have HA := Lib.hid ha
            have HB := Lib.hid hb
            have HN1 := Lib.hid hn1
            have HN2 := Lib.hid hn2e
            rw [hn1] at ll hgr
            rw [hn2e] at lr hgr
            have HLl := Lib.hid ll.symm
            have HLr := Lib.hid lr.symm
            have ra : 0 ≤ a := fL.1
            have rb : 0 ≤ b := fR.1
            have q0 : (0 : Int) ≤ (h : Int) := by omega
            have q1 : (h : Int) ≤ (s.size : Int) := by omega
            have h1' : (1 : Int) < (s.size : Int) := by omega
            have HWl := Lib.hid (show ∀ q, (Value.slice A n c).ownBlock = some q → q < W.heap.size from fun q hq => (P0.out.q.lt q hq).2)
            have HWm := Lib.hid (show ∀ q, (Value.slice B n d).ownBlock = some q → q < W.heap.size from fun q hq => (P0.out.l.lt q hq).2)
            have HGr := Lib.hid hgr
            have zX : W.heap.size ≠ X := by have := P0.out.x.lt; omega
            have z0 : w0.heap.size ≤ W.heap.size := P0.out.e.size
            clear hh exL exR hwL hwR dL hR hL hpe dR hne fL fR ll lr hn1 hn2e ha hb eL eR h1 IH hgr
            go_wp2_with fail
            refine HL.out.mono ?_
            rintro e w3 (⟨h4, A3, c3, B3, d3, he, p3, f3⟩ | ⟨h4, rfl, hb3⟩)
            · rw [HA.out] at he
              subst he
              rw [HN1.out, HLl.out] at p3 f3
              rw [HN1.out] at h4
              have P3 := Lib.hid p3
              have F3 := Lib.hid f3
              clear p3 f3
              go_wp2_with fail
              refine (HR.out A3 n1 c3 B3 d3 w3 HN1.out h4 P3.out).mono ?_
              rintro e w4 (⟨h5, A4, c4, B4, d4, he, p4, f4⟩ | ⟨h5, rfl, hb4⟩)
              · rw [HB.out] at he
                subst he
                rw [HN2.out, HLr.out] at p4 f4
                rw [HN2.out] at h5
                have P4 := Lib.hid p4
                have F4 := Lib.hid (F3.out.trans f4)
                clear p4 f4
                have BX4 := Lib.hid (F4.out.blk BX1.out zX (fun e => by have := HWl.out _ e.symm; omega) (fun e => by have := HWm.out _ e.symm; omega))
                have h8 : (W.alloc (.cells #[.string s, .int .i64 0, .int .i64 0] 44)).heap.size = W.heap.size + 1 := by simp
                have ne1 : some W.heap.size ≠ (Value.slice A4 n2 c4).ownBlock := by
                  intro e
                  rcases F4.out.row with q | q
                  · rw [q] at e; have := HWl.out _ e.symm; omega
                  · have h9 := q _ e.symm; omega
                have ne2 : some W.heap.size ≠ (Value.slice B4 n2 d4).ownBlock := by
                  intro e
                  rcases F4.out.row' with q | q
                  · rw [q] at e; have := HWm.out _ e.symm; omega
                  · have h9 := q _ e.symm; omega
                have BX6 := Lib.hid (((BX4.out.set_ 0 (.string .empty)).set_ 1 (.int .i64 a)).set_ 2 (.int .i64 b))
                have P6 := Lib.hid (((P4.out.box z0 zX ne1 ne2 0 (.string .empty)).box z0 zX ne1 ne2 1 (.int .i64 a)).box z0 zX ne1 ne2 2 (.int .i64 b))
                have F6 := Lib.hid ((((F1.out.trans F4.out).box (Nat.le_refl _) 0 (.string .empty)).box (Nat.le_refl _) 1 (.int .i64 a)).box (Nat.le_refl _) 2 (.int .i64 b))
                obtain ⟨m0, m1, m2⟩ := BX4.out.three
                have f5 := BX4.out.frozen
                have l5 := BX4.out.lt
                clear ne1 ne2 h8
                go_wp2_with fail
                go_meet
                exact ⟨A4, n2, c4, B4, d4, s2, ⟨⟨#[]⟩, a, b⟩, P6, BX6, F6, HPe, HNe, HN2, HLr, h5⟩
              · go_wp2_with fail
                go_ret
                rw [HPe.out]
                rw [HN2.out] at h5
                exact .inr ⟨by simp only [List.length_append, HN2.out]; omega, rfl, hb4⟩
            · go_wp2_with fail
              go_ret
              rw [HPe.out]
              rw [HN1.out] at h4
              exact .inr ⟨by have := HGr.out; simp only [List.length_append, HN2.out]; omega, rfl, hb3⟩
          · have h1' : ¬ (1 : Int) < (s.size : Int) := by omega
            go_wp2_with fail
            go_meet
            exact ⟨A, n, c, B, d, st, ⟨s, 0, 0⟩, P1, BX1, F1, Lib.hid (hv_one HMem.out h1), HMem, HN, HNw, hn4⟩
        case rest =>
          obtain ⟨A2, n2, c2, B2, d2, st2, y, P2, BX2, F2, HE, HMem2, HN2, HN2', hn2'⟩ := hcut
          have xc0 := P2.out.x.cell 0
          have xc1 := P2.out.x.cell 1
          have xl := P2.out.x.lt
          by_cases h400 : 400 ≤ n2
          · go_wp2_with fail
            go_ret
            rw [HE.out]
            exact .inr ⟨by simp only [List.length_append, HN2.out, List.length_singleton]; omega, rfl, P2.out.e⟩
          · have zX : W.heap.size ≠ X := by have := P0.out.x.lt; omega
            have v1 : IntKind.i64.wrap ((n2 : Int) + 1 - 1) = (n2 : Int) := by rw [IntWalk.i64_in _ (by omega)]; omega
            have v2 : IntKind.i64.wrap (n2 : Int) = (n2 : Int) := IntWalk.i64_in _ (by omega)
            have P3 := Lib.hid (P2.out.alloc (.cells #[.string s] 9))
            have F3 := Lib.hid (F2.out.trans (HsF.of_below (X := X) (v := .slice A2 n2 c2) (u := .slice B2 n2 d2) ((Below.refl wc.heap.size wc).alloc (Nat.le_refl _) (.cells #[.string s] 9))))
            have BX3 := Lib.hid (BX2.out.next ((Below.refl wc.heap.size wc).alloc (Nat.le_refl _) (.cells #[.string s] 9)))
            have zk : (n2 + 1) * 32 ≤ 140737488355328 := by omega
            have zkm : n2 + 1 ≤ maxLen := by unfold maxLen; omega
            clear F1 BX1 P1
            go_wp2_with
              (at_builtin
               refine wpList_push (w0 := w0) rfl _ _ _ rfl w0.heap.size 9 1 16 elem_str strE A2 n2 c2 st2.ws rfl P3.out.q wc.heap.size s #[.string s] 9 (0, 0) rfl (heap_alloc_new _ _) rfl rfl (by simp [strE, Value.oneCell']) (by omega) (by omega) (by unfold maxLen; omega) rfl P3.out.e ?_
               intro A8 c8 w8 own8 hg8 hat8 hb8
               have P4 := Lib.hid (P3.out.pushW own8 hg8)
               have F4 := Lib.hid ((F3.out.trans (HsF.of_grown (X := X) (u := .slice B2 n2 d2) hg8 hat8)).setX 0 (.slice A8 (n2 + 1) c8))
               have BX4 := Lib.hid ((BX3.out.grown hg8 (own_blk_ne P3.out.q BX3.out (by decide))).far zX (p := ⟨X, 0, none⟩) (.slice A8 (n2 + 1) c8))
               have BXX := P3.out.x.grown hg8 (own_blk_ne P3.out.q P3.out.x (by decide))
               have x80 := BXX.cell 0
               have xf8 := BXX.frozen
               have xl8 := BXX.lt
               have P4d := Lib.hid (P4.out.next (Below.refl _ _).drew)
               have BX4d := Lib.hid (BX4.out.next (Below.refl _ _).drew)
               have x91 := P4d.out.x.cell 1
               have xl9 := P4d.out.x.lt
               have bx9 := BX4d.out.three
               have bx90 := bx9.1
               have bx91 := bx9.2.1
               have bx92 := bx9.2.2
               have bl9 := BX4d.out.lt
               have P5 := Lib.hid ((P4.out.alloc (.cells #[.string y.l, .int .i64 y.a, .int .i64 y.b] 44)).next (Below.refl _ _).drew)
               have hb5 := heap_alloc_new (w8.setCell ⟨X, 0, none⟩ (.slice A8 (n2 + 1) c8)) (.cells #[.string y.l, .int .i64 y.a, .int .i64 y.b] 44)
               rw [show (w8.setCell ⟨X, 0, none⟩ (.slice A8 (n2 + 1) c8)).heap.size = w8.heap.size by simp] at hb5
               have HB5 := Lib.hid (show (((w8.setCell ⟨X, 0, none⟩ (.slice A8 (n2 + 1) c8)).alloc (.cells #[.string y.l, .int .i64 y.a, .int .i64 y.b] 44)).drew).heap[w8.heap.size]? = some (.cells #[.string y.l, .int .i64 y.a, .int .i64 y.b] 44) from hb5)
               clear hb5
               have x93 := (P4.out.alloc (.cells #[.string y.l, .int .i64 y.a, .int .i64 y.b] 44)).x.cell 1
               have xl93 := (P4.out.alloc (.cells #[.string y.l, .int .i64 y.a, .int .i64 y.b] 44)).x.lt)
            clear x80 xf8 xl8 bx9 xc0 xc1 xl BXX
            go_region_law
              (refine step_pushB (by rfl) _ _ _ (by rfl) w0.heap.size 44 3 32 elem_rule Fac.cells B2 n2 d2 st2.rs (by rfl) P5.out.l _ y #[.string y.l, .int .i64 y.a, .int .i64 y.b] 44 (0, 0) (by rfl) HB5.out rfl rfl (one_fac _) (by omega) zk zkm P5.out.e.size ?_
               intro B9 c9 w9 own9 hg9 old9
               have P6 := Lib.hid (P5.out.pushR own9 hg9)
               have F6 := Lib.hid (((F4.out.trans (HsF.of_below (X := X) (v := .slice A8 (n2 + 1) c8) (u := .slice B2 n2 d2) ((Below.refl _ _).alloc (Nat.le_refl _) (.cells #[.string y.l, .int .i64 y.a, .int .i64 y.b] 44)).drew)).trans (HsF.of_grown' (X := X) (v := .slice A8 (n2 + 1) c8) hg9 old9)).setX 1 (.slice B9 (n2 + 1) c9))
               have BY := P5.out.x.grown hg9 (own_blk_ne P5.out.l P5.out.x (by decide))
               have y81 := BY.cell 1
               have yf8 := BY.frozen
               have yl8 := BY.lt)
            all_goals
              have z1 := P6.out.x.cell 1
              have zl := P6.out.x.lt
              clear y81 yf8 yl8 x91 xl9 x93 xl93 bx90 bx91 bx92 bl9
              go_wp2_with fail
              go_ret
              rw [HE.out]
              have hl1 := show (st2.rs ++ [y]).length = n2 + 1 by rw [List.length_append, HN2.out]; rfl
              have hl2 := show (st2.ws ++ [s]).length = n2 + 1 by rw [List.length_append, HN2'.out]; rfl
              refine .inl ⟨by show (st2.rs ++ [y]).length ≤ 400; omega, A8, c8, B9, c9, ?_, ?_, ?_⟩
              · show _ = Ending.returned (.int .i64 (findS s (st2.ws ++ [s]) 0))
                rw [findS_end HMem2.out, HN2'.out, Int.zero_add]; rfl
              · show HsW w0 _ X A8 (st2.ws ++ [s]).length c8 (st2.ws ++ [s]) B9 (st2.rs ++ [y]).length c9 (st2.rs ++ [y])
                rw [hl1, hl2]; exact P6.out
              · show HsF W _ X (.slice A n c) (.slice A8 (st2.ws ++ [s]).length c8) (.slice B n d) (.slice B9 (st2.rs ++ [y]).length c9)
                rw [hl1, hl2]; exact F6.out
set_option maxHeartbeats 4000000 in
set_option maxRecDepth 100000 in
theorem specHalv_any (s : ByteArray) (w : World) (hs : s.size ≤ 1048576) : Calls Try.prog 14 #[.string s] w (RetGC w (hvF s) (hvC s)) := by
  rcases ho : okW s with _ | _
  · have Ho := Lib.hid ho
    have hT := Lib.hid (show hvF s = [] by unfold hvF; rw [ho]; rfl)
    have hC := Lib.hid (show hvC s = 1 by unfold hvC; rw [ho]; rfl)
    rw [hT.out, hC.out]
    clear ho hT hC
    go_enter Try.func14, Try.ntmps14
    go_wp2_with fail
    refine (specOk_any s false _ (by unfold maxLen; omega) Ho.out).mono ?_
    rintro e w1 ⟨rfl, hb1⟩
    have B1 := (Blk.new w 24 #[.slice none 0 0]).next hb1
    have b1 : Below w.heap.size w w1 := ((Below.refl w.heap.size w).alloc (Nat.le_refl _) (.cells #[.slice none 0 0] 24)).trans (hb1.mono (by simp))
    have d1 := B1.cell 0
    have f1 := B1.frozen
    have l1 := B1.lt
    have B5 := B1.set_ 0 (.slice none 0 0)
    have x5 : (w1.setCell ⟨w.heap.size, 0, none⟩ (.slice none 0 0)).cell? ⟨w.heap.size, 0, none⟩ = some (.slice none 0 0) := by rw [B5.cell 0]; rfl
    have b5 := b1.setCell (p := ⟨w.heap.size, 0, none⟩) (Nat.le_refl _) (.slice none 0 0)
    clear B5 B1
    go_wp2_with fail
    refine bodyPost_ret (v := .tuple #[.agg #[.slice none 0 0], .int .i64 1]) (by simp [results, Try.results14, go_sem, x5]) rfl ⟨none, 0, rfl, World.ownsRow_nil _ _ _ _, b5⟩
  · have Ho := Lib.hid ho
    have hT := Lib.hid (show hvF s = limF (hvG s) by unfold hvF; rw [ho]; rfl)
    have hC := Lib.hid (show hvC s = limC (hvG s) by unfold hvC; rw [ho]; rfl)
    rw [hT.out, hC.out]
    have hs2 := okW_len2 ho
    clear ho hT hC
    go_enter Try.func14, Try.ntmps14
    go_wp2_with fail
    refine namedC fun w1 H1 => ?_
    have hb1 : Below w.heap.size w w1 := by rw [H1.out]; (repeat first | exact Below.refl _ _ | assumption | refine Below.drew ?_ | refine Below.alloc ?_ (by first | exact Nat.le_refl _ | (simp; done) | omega | (simp; omega)) _ | refine Below.setCell ?_ (by first | exact Nat.le_refl _ | (simp; done) | omega | (simp; omega)) _)
    have B1 := Lib.hid (show Blk w1 w.heap.size 24 #[.slice none 0 0] by rw [H1.out]; exact Blk.new _ _ _)
    have hsz : w.heap.size < w1.heap.size := B1.out.lt
    clear H1
    refine (specOk_any s true _ (by unfold maxLen; omega) Ho.out).mono ?_
    rintro e w2 ⟨rfl, hb2⟩
    by_cases h0 : s.size = 0
    · have e0 := size0 h0
      have eF := Lib.hid (show limF (hvG s) = [] by unfold hvG; rw [if_pos h0]; rfl)
      have eC := Lib.hid (show limC (hvG s) = 0 by unfold hvG; rw [if_pos h0]; rfl)
      clear h0
      have B7 := B1.out.next hb2
      have b7 := hb1.trans (hb2.mono (by omega))
      have d5 := B7.cell 0
      have f5 := B7.frozen
      have l5 := B7.lt
      have B8 := B7.set_ 0 (.slice none 0 0)
      have x6 : (w2.setCell ⟨w.heap.size, 0, none⟩ (.slice none 0 0)).cell? ⟨w.heap.size, 0, none⟩ = some (.slice none 0 0) := by rw [B8.cell 0]; rfl
      have b6 := b7.setCell (p := ⟨w.heap.size, 0, none⟩) (Nat.le_refl _) (.slice none 0 0)
      clear B8 B7
      go_wp2_with fail
      rw [eF.out, eC.out]
      exact bodyPost_ret (v := .tuple #[.agg #[.slice none 0 0], .int .i64 0]) (by simp [results, Try.results14, go_sem, x6]) rfl ⟨none, 0, rfl, World.ownsRow_nil _ _ _ _, b6⟩
    · have e0 := size1 h0
      have e1 := size1' h0
      have hw : WordOk s := ⟨by omega, hs2, by
        have h := Ho.out
        unfold okW at h
        simp only [Bool.and_eq_true, List.all_eq_true] at h
        exact h.2⟩
      have hG := show hvG s = (hv s ⟨[], []⟩).rs by unfold hvG; rw [if_neg h0]
      have HW := Lib.hid hw
      have HG := Lib.hid hG
      clear h0 hw hG
      go_wp2_with fail
      refine namedC fun w3 H3 => ?_
      have z2 := hb2.size
      have hb3 : Below w2.heap.size w2 w3 := by rw [H3.out]; (repeat first | exact Below.refl _ _ | assumption | refine Below.drew ?_ | refine Below.alloc ?_ (by first | exact Nat.le_refl _ | (simp; done) | omega | (simp; omega)) _ | refine Below.setCell ?_ (by first | exact Nat.le_refl _ | (simp; done) | omega | (simp; omega)) _)
      have P3 := Lib.hid (show HsW w1 w3 w2.heap.size none 0 0 [] none 0 0 [] from
        ⟨World.ownsRow_nil _ _ _ _, World.ownsRow_nil _ _ _ _, by rw [H3.out]; exact Blk.new _ _ _, hb2.trans (hb3.mono z2), z2⟩)
      clear H3
      refine (halves_any w1 w2.heap.size s.size s ⟨[], []⟩ none 0 0 none 0 w3 rfl HW.out hvI_nil rfl (by omega) P3.out).mono ?_
      rintro e w4 (⟨h4, A4, c4, B4, d4, rfl, p4, _⟩ | ⟨h4, rfl, hb4⟩)
      · have hp := (findS_lt (hv_do s.size s ⟨[], []⟩ rfl HW.out hvI_nil).mem).1
        rw [← HG.out] at p4 h4
        have hg := hvG_gok Ho.out h4
        have eF := Lib.hid (show limF (hvG s) = hvG s by unfold limF; rw [if_pos hg])
        have eC := Lib.hid (show limC (hvG s) = 0 by unfold limC; rw [if_pos hg])
        have P4 := Lib.hid p4
        clear p4 hg
        generalize hvG s = T at *
        generalize findS s (hv s ⟨[], []⟩).ws 0 = y at *
        have xc := P4.out.x.cell 1
        have xl := P4.out.x.lt
        have B7 := B1.out.next P4.out.e
        have b7 := hb1.trans (P4.out.e.mono (by omega))
        have d5 := B7.cell 0
        have f5 := B7.frozen
        have l5 := B7.lt
        have B8 := B7.set_ 0 (.slice B4 T.length d4)
        have x6 : (w4.setCell ⟨w.heap.size, 0, none⟩ (.slice B4 T.length d4)).cell? ⟨w.heap.size, 0, none⟩ = some (.slice B4 T.length d4) := by rw [B8.cell 0]; rfl
        have b6 := b7.setCell (p := ⟨w.heap.size, 0, none⟩) (Nat.le_refl _) (.slice B4 T.length d4)
        have O8 := Lib.hid (own_kept' (P4.out.l.mono (show w.heap.size ≤ w1.heap.size by omega)) B7 (by decide) (.slice B4 T.length d4) (i := 0))
        clear B8 B7 h4
        go_wp2_with fail
        rw [eF.out, eC.out]
        exact bodyPost_ret (v := .tuple #[.agg #[.slice B4 T.length d4], .int .i64 0]) (by simp [results, Try.results14, go_sem, x6]) rfl ⟨B4, d4, rfl, O8.out, b6⟩
      · rw [← HG.out] at h4
        have hg : (gOk (hvG s)).isSome = false := by unfold gOk; rw [if_pos h4]; rfl
        have eF := Lib.hid (show limF (hvG s) = [] by unfold limF; rw [if_neg (by rw [hg]; decide)])
        have eC := Lib.hid (show limC (hvG s) = 3 by unfold limC; rw [if_neg (by rw [hg]; decide)])
        clear hg h4
        have B7 := B1.out.next hb4
        have b7 := hb1.trans (hb4.mono (by omega))
        have d5 := B7.cell 0
        have f5 := B7.frozen
        have l5 := B7.lt
        have B8 := B7.set_ 0 (.slice none 0 0)
        have x6 : (w4.setCell ⟨w.heap.size, 0, none⟩ (.slice none 0 0)).cell? ⟨w.heap.size, 0, none⟩ = some (.slice none 0 0) := by rw [B8.cell 0]; rfl
        have b6 := b7.setCell (p := ⟨w.heap.size, 0, none⟩) (Nat.le_refl _) (.slice none 0 0)
        clear B8 B7
        go_wp2_with fail
        rw [eF.out, eC.out]
        exact bodyPost_ret (v := .tuple #[.agg #[.slice none 0 0], .int .i64 3]) (by simp [results, Try.results14, go_sem, x6]) rfl ⟨none, 0, rfl, World.ownsRow_nil _ _ _ _, b6⟩
end Go.Proofs.Ytikhjoianbndhaa
