/-
  The letters of a grammar replaced, in the reference.
-/
import Derived.Test.YtkknhpailohjcaaMapP
import Derived.Test.YtkknhpailohjcaaPlainS
import Derived.Test.YtkknhpailohjcaaTrimS
namespace Go.Proofs.Ytkknhpailohjcaa
open Go.RowKit

section
variable {α : Type} {P : Program} {w : World} {ops : Array Oper} {o : Oper} {a : Act} {K : Act → World → Prop} {Q : Exit → Act → World → Prop} {E : Prop}
/-- one element more, as a step of a region that draws its order; where the row lies then -/
theorem step_pushH (hgd : o.guard = none) (s x : Operand) (t : TypeId) (ho : o.op = .call { callee := .builtin .append, args := #[s, x], argTypes := #[t, t] })
    (base : Nat) (e : TypeId) (sz bytes : Nat) (EI : Elem P t e sz bytes) (enc : α → List Value) (A : Option Addr) (n c : Nat) (xs : List α) (hs : a.eval s = .slice A n c)
    (hown : w.ownsRow base e sz (.slice A n c) n (xs.flatMap enc)) (g : Nat) (y : α) (cs : Array Value) (t' : TypeId) (fr : Nat × Nat) (hx : a.eval x = .slice (some ⟨g, 0, none⟩) 1 1) (hg : w.heap[g]? = some (.cells cs t' fr)) (hcs : cs.toList = enc y)
    (hlen : (enc y).length = sz) (hone : ∀ u ∈ enc y, u.oneCell' = true) (hsz : 0 < sz) (hbytes : (n + 1) * bytes ≤ 140737488355328) (hm : n + 1 ≤ maxLen) (hsize : base ≤ w.heap.size)
    (h : ∀ A' c' w', w'.ownsRow base e sz (.slice A' (n + 1) c') (n + 1) ((xs ++ [y]).flatMap enc) → w.grownBy w' (Value.slice A n c).ownBlock →
      ((Value.slice A' (n + 1) c').ownBlock = (Value.slice A n c).ownBlock ∨ (Value.slice A' (n + 1) c').ownBlock = some w.heap.size) →
      K (a.put o.dst (.slice A' (n + 1) c')) w') : if Region.wanted o (yielded ops a.tmps) = true then Oper.wp P o a w K Q else E := by
  obtain ⟨ht, i, z, hi, hz, h1, h2, hzs⟩ := EI
  have hnews : ∀ j u, (enc y)[j]? = some u → w.cell? ((⟨g, 0, none⟩ : Addr).add j) = some u := by rw [← hcs]; exact World.news_of_block hg
  obtain ⟨v', w', hr, r2, r3, _, r5⟩ := run_append_own_at (P := P) w base t o.type e i z sz bytes ht hi hz h1 h2 hzs hsz _ n _ hown ⟨g, 0, none⟩ 1 1 (enc y) (by rw [hlen]; omega) hnews hone hm hbytes hsize
  obtain ⟨g', cap, rfl, _, _⟩ := r2.form (by omega)
  have hw : Region.wanted o (yielded ops a.tmps) = true := by simp [Region.wanted, hgd]
  rw [if_pos hw]
  unfold Oper.wp execOp
  simp only [ho, resolve, invoke, builtin, Sem.run_bind, Sem.run_pure, Result.andThen_ok, List.map_toArray, List.map_cons, List.map_nil, hs, hx, hr]
  exact h _ _ w' (by rw [List.flatMap_append]; simpa using r2) r3 r5
end
/-- 'MapLetters' of the reference under way -/
structure MsW (w W : World) (G S : Nat) (ga gv : Value) (A : Option Addr) (n c : Nat) (out : List Fac) (st : List Int) : Prop where
  q : W.ownsRow w.heap.size 75 3 (.slice A n c) n (out.flatMap Fac.cells)
  i : Blk W w.heap.size 31 #[ga]
  o : Blk W (w.heap.size + 1) 31 #[.slice none 0 0]
  g : Blk W G 31 #[gv]
  s : Blk W S 2 (intA st)
  e : Below w.heap.size w W
  n0 : w.heap.size + 1 < G
  n1 : w.heap.size ≤ S
section
variable {w W W' : World} {G S : Nat} {ga gv : Value} {A : Option Addr} {n c : Nat} {out : List Fac} {st : List Int}
theorem MsW.next (h : MsW w W G S ga gv A n c out st) (hb : Below W.heap.size W W') : MsW w W' G S ga gv A n c out st :=
  ⟨own_next h.q hb, h.i.next hb, h.o.next hb, h.g.next hb, h.s.next hb, h.e.trans (hb.mono h.e.size), h.n0, h.n1⟩
theorem MsW.alloc (h : MsW w W G S ga gv A n c out st) (o : Obj) : MsW w (W.alloc o) G S ga gv A n c out st := h.next ((Below.refl _ _).alloc (Nat.le_refl _) _)
theorem MsW.drew (h : MsW w W G S ga gv A n c out st) : MsW w W.drew G S ga gv A n c out st := h.next (Below.refl _ _).drew
theorem MsW.app {A8 : Option Addr} {k8 c8 : Nat} {out' : List Fac} (h : MsW w W G S ga gv A n c out st) (hq : W'.ownsRow w.heap.size 75 3 (.slice A8 k8 c8) k8 (out'.flatMap Fac.cells)) (hg : W.grownBy W' (Value.slice A n c).ownBlock) :
    MsW w W' G S ga gv A8 k8 c8 out' st :=
  ⟨hq, h.i.grown hg (own_blk_ne h.q h.i (by decide)), h.o.grown hg (own_blk_ne h.q h.o (by decide)), h.g.grown hg (own_blk_ne h.q h.g (by decide)), h.s.grown hg (own_blk_ne h.q h.s (by decide)), h.e.grown hg h.e.size (own_ge h.q), h.n0, h.n1⟩
theorem MsW.put (h : MsW w W G S ga gv A n c out st) (u : Value) : MsW w (W.setCell ⟨G, 0, none⟩ u) G S ga u A n c out st := by
  have hg2 := gb_set W G 0 u
  have h0 := h.n0
  have hs : some S ≠ some G := fun e => by
    injection e with e
    have h1 := h.s; have h2 := h.g
    rw [e] at h1
    unfold Blk at h1 h2
    rw [h1] at h2
    injection h2 with h2; injection h2 with _ h2; exact absurd h2 (by decide)
  exact ⟨own_kept' h.q h.g (by decide) _, h.i.grown hg2 (by intro e; injection e with e; omega), h.o.grown hg2 (by intro e; injection e with e; omega), h.g.set_ 0 _, h.s.grown hg2 hs, h.e.setCell (by show w.heap.size ≤ G; omega) _, h.n0, h.n1⟩
/-- behind what writes a row of numbers made later -/
theorem MsW.far {v : Value} {k b : Nat} {xs : List Value} (h : MsW w W G S ga gv A n c out st) (ho : W.ownsRow b 2 1 v k xs) (hb : S < b) (hg : W.grownBy W' v.ownBlock) : MsW w W' G S ga gv A n c out st :=
  ⟨h.q.kept hg (own_ne h.q ho (by decide)), h.i.grown hg (own_blk_ne ho h.i (by decide)), h.o.grown hg (own_blk_ne ho h.o (by decide)), h.g.grown hg (own_blk_ne ho h.g (by decide)), h.s.grown hg (fun e => by have := own_ge ho S e.symm; omega), h.e.grown hg h.e.size (fun q hq => by have := own_ge ho q hq; have := h.n1; omega), h.n0, h.n1⟩
theorem MsW.tell (h : MsW w W G S ga gv A n c out st) (i : Nat) (z : Int) : MsW w (W.setCell ⟨S, i, none⟩ (.int .i64 z)) G S ga gv A n c out (st.set i z) := by
  have hg2 := gb_set W S i (.int .i64 z)
  have nt : ∀ {g : Nat} {cs : Array Value}, Blk W g 31 cs → some g ≠ some S := fun hB e => by
    injection e with e; subst e
    have := hB.symm.trans h.s
    injection this with this; injection this with _ this; exact absurd this (by decide)
  have := h.s.set_ i (.int .i64 z)
  rw [intA_set] at this
  exact ⟨own_kept' h.q h.s (by decide) _, h.i.grown hg2 (nt h.i), h.o.grown hg2 (nt h.o), h.g.grown hg2 (nt h.g), this, h.e.setCell h.n1 _, h.n0, h.n1⟩
end
theorem usedL_take {rs : List Fac} {k : Nat} {x : Fac} (h : rs[k]? = some x) (u : UInt8) : usedL (rs.take (k + 1)) u = (usedL (rs.take k) u || decide (x.l = ⟨#[u]⟩)) := by
  rw [take_succ_at h]; simp [usedL]
theorem raise_take {rs : List Fac} {k : Nat} {x : Fac} (h : rs[k]? = some x) (b : Int) : raiseL b (rs.take (k + 1)) = raiseL b (rs.take k) ++ [rsF b x] := by
  rw [take_succ_at h]; simp [raiseL]
set_option maxHeartbeats 4000000 in
set_option maxRecDepth 100000 in
theorem specMap_any (A : Option Addr) (n c : Nat) (rs : List Fac) (B : Option Addr) (m d : Nat) (ws : List ByteArray) (w : World) (hn : n ≤ 1048576) (hm : m ≤ 1048576) (hr : Rd w w.heap.size A n 3 Fac.cells rs) (hw : Rd w w.heap.size B m 1 strEM ws)
    (hok : ∀ f ∈ rs, f.l.size ≤ maxLen) (hs : ∀ s ∈ ws, s.size ≤ 1048576) :
    Calls Try.prog 31 #[.agg #[.slice A n c], .slice B m d] w (RetGC w (mapF rs ws) (mapC rs ws)) := by
  have HR := Lib.hid hr; clear hr
  have HW := Lib.hid hw; clear hw
  have HO := Lib.hid hok; clear hok
  have hs' : ∀ s ∈ ws, s.size ≤ maxLen := fun s hx => by have := hs s hx; unfold maxLen; omega
  have HS := Lib.hid hs'; clear hs hs'
  have hl := Lib.hid HR.out.len
  have hlw := Lib.hid HW.out.len
  have start : ∀ w3, Hid (w3 = (w.alloc (.cells #[.slice A n c] 31)).alloc (.cells #[.slice none 0 0] 31)) →
      Below w.heap.size w w3 ∧ Blk w3 w.heap.size 31 #[.slice A n c] ∧ Blk w3 (w.heap.size + 1) 31 #[.slice none 0 0] := fun w3 H3 => by
    rw [H3.out]
    refine ⟨by (repeat first | exact Below.refl _ _ | assumption | refine Below.drew ?_ | refine Below.alloc ?_ (by first | exact Nat.le_refl _ | (simp; done) | omega | (simp; omega)) _ | refine Below.setCell ?_ (by first | exact Nat.le_refl _ | (simp; done) | omega | (simp; omega)) _), (Blk.new _ _ _).alloc _, ?_⟩
    simpa using Blk.new (w.alloc (.cells #[.slice A n c] 31)) 31 #[.slice none 0 0]
  have Start := Lib.hid start; clear start
  have shut : ∀ w4, Below w.heap.size w w4 → Blk w4 (w.heap.size + 1) 31 #[.slice none 0 0] →
      (w4.cell? ⟨w.heap.size + 1, 0, none⟩ = some (.slice none 0 0)) ∧ (∀ i, w4.frozen? ⟨w.heap.size + 1, i, none⟩ = false) ∧ w.heap.size + 1 < w4.heap.size ∧
      (w4.setCell ⟨w.heap.size + 1, 0, none⟩ (.slice none 0 0)).cell? ⟨w.heap.size + 1, 0, none⟩ = some (.slice none 0 0) ∧ Below w.heap.size w (w4.setCell ⟨w.heap.size + 1, 0, none⟩ (.slice none 0 0)) := fun w4 hb B4 => by
    refine ⟨B4.cell 0, B4.frozen, B4.lt, ?_, hb.setCell (by simp) _⟩
    rw [(B4.set_ 0 (.slice none 0 0)).cell 0]; rfl
  have Shut_ := Lib.hid shut; clear shut
  rcases hg : (gOk rs).isSome with _ | _
  · have Hg := Lib.hid hg
    have hmo : mapOk rs ws = false := by unfold mapOk; rw [hg]; rfl
    have eT := Lib.hid (show mapF rs ws = [] by unfold mapF; rw [if_pos hmo])
    have eC := Lib.hid (show mapC rs ws = 1 by unfold mapC; rw [if_pos hmo])
    clear hg hmo
    go_enter Try.func31, Try.ntmps31
    go_wp2_with fail
    refine namedC fun w3 H3 => ?_
    obtain ⟨hb3, BG, BC⟩ := Start.out w3 H3
    clear H3
    refine (l02Ok_any w.heap.size A n c rs w3 BG.lt (BG.cell 0) (by omega) (HR.out.next hb3) HO.out false Hg.out).mono ?_
    rintro e1 w4 ⟨rfl, hb4⟩
    obtain ⟨d4, f4, l4, x5, b5⟩ := Shut_.out w4 (hb3.trans (hb4.mono hb3.size)) (BC.next hb4)
    clear BG BC
    go_wp2_with fail
    exact bodyPost_ret (v := .tuple #[.agg #[.slice none 0 0], .int .i64 1]) (by simp [results, Try.results31, go_sem, x5]) rfl ⟨none, 0, by rw [eT.out, eC.out]; rfl, by rw [eT.out]; exact World.ownsRow_nil _ _ _ _, b5⟩
  by_cases hm4 : m = 4
  · obtain ⟨ls, hls⟩ := Option.isSome_iff_exists.1 hg
    have hwf := Lib.hid (wf_of (gOk_lens hls).1)
    have hn4 : n ≤ 400 := by have := (gOk_lens hls).2.1; have := hl.out; omega
    have Hg := Lib.hid hg
    subst hm4
    have hmo := Lib.hid (show mapOk rs ws = ws.all okW by unfold mapOk; rw [hg, hlw.out]; rfl)
    clear hg hls
    go_enter Try.func31, Try.ntmps31
    go_wp2_with fail
    refine namedC fun w3 H3 => ?_
    obtain ⟨hb3, BG, BC⟩ := Start.out w3 H3
    clear H3
    refine (l02Ok_any w.heap.size A n c rs w3 BG.lt (BG.cell 0) (by omega) (HR.out.next hb3) HO.out true Hg.out).mono ?_
    rintro e1 w4 ⟨rfl, hb4⟩
    have b4 := hb3.trans (hb4.mono hb3.size)
    have BC4 := Lib.hid (BC.next hb4)
    have BG4 := Lib.hid (BG.next hb4)
    clear BG BC
    go_wp2_with fail
    go_loopw [6] (fun i_ w' => ∃ k : Nat, i_ = .int .i64 k ∧ k ≤ 4 ∧ Hid (Below w4.heap.size w4 w') ∧ Hid ((ws.take k).all okW = true)) (fun i_ _ => (4 - intOf i_).toNat)
    case atStart => exact ⟨0, rfl, by omega, Lib.hid (Below.refl _ _), Lib.hid rfl⟩
    case round =>
      obtain ⟨k, rfl, hk4, hb5, hall⟩ := hrel
      have b5 := b4.trans (hb5.out.mono b4.size)
      by_cases hlt : k < 4
      · obtain ⟨bw, ow, x, rfl, hBw, gx, c0⟩ := (show Rd wr w.heap.size B 4 1 (fun s => [.string s]) ws from HW.out.below b5).str (k := k) hlt
        have hxs := HS.out x (List.mem_of_getElem? gx)
        have k0 : (0 : Int) ≤ (k : Int) := by omega
        have k1 : (k : Int) < 4 := by omega
        rcases hx : okW x with _ | _
        · have Hx := Lib.hid hx
          have hmo2 : mapOk rs ws = false := by
            rw [hmo.out]
            rw [List.all_eq_false]
            exact ⟨x, List.mem_of_getElem? gx, by rw [hx]; simp⟩
          have eT := Lib.hid (show mapF rs ws = [] by unfold mapF; rw [if_pos hmo2])
          have eC := Lib.hid (show mapC rs ws = 1 by unfold mapC; rw [if_pos hmo2])
          clear hx hmo2 gx
          go_wp2_with fail
          refine (specOk_any x false _ hxs Hx.out).mono ?_
          rintro e1 w6 ⟨rfl, hb6⟩
          obtain ⟨d4, f4, l4, x5, b5'⟩ := Shut_.out w6 (b5.trans (hb6.mono b5.size)) ((BC4.out.next hb5.out).next hb6)
          go_wp2_with fail
          exact bodyPost_ret (v := .tuple #[.agg #[.slice none 0 0], .int .i64 1]) (by simp [results, Try.results31, go_sem, x5]) rfl ⟨none, 0, by rw [eT.out, eC.out]; rfl, by rw [eT.out]; exact World.ownsRow_nil _ _ _ _, b5'⟩
        · have Hx := Lib.hid hx
          have hall' := Lib.hid (show (ws.take (k + 1)).all okW = true by rw [take_succ_at gx, List.all_append, hall.out]; simp [hx])
          clear hx gx
          go_wp2_with fail
          refine (specOk_any x true _ hxs Hx.out).mono ?_
          rintro e1 w6 ⟨rfl, hb6⟩
          go_wp2_with fail
          go_roundw
          case rel => exact ⟨k + 1, by go_num, by omega, Lib.hid (hb5.out.trans (hb6.mono hb5.out.size)), hall'⟩
          case measure => simp [intOf]; omega
      · have hk5 : k = 4 := by omega
        have hA := hall.out
        rw [hk5, show ws.take 4 = ws from List.take_of_length_le (by rw [hlw.out]; omega)] at hA
        have Ha := Lib.hid hA
        have HMO := Lib.hid (show mapOk rs ws = true by rw [hmo.out]; exact hA)
        have BC5 := Lib.hid (BC4.out.next hb5.out)
        have BG5 := Lib.hid (BG4.out.next hb5.out)
        have l5 := BC5.out.lt
        clear hA hk5 hall hmo
        go_wp2_with fail
        refine named fun w6 H6 => ?_
        have M6 := Lib.hid (show MsW w w6 wr.heap.size (wr.heap.size + 1) (.slice A n c) (.slice none 0 0) none 0 0 [] [-1, -1, -1, -1] by
          rw [H6.out]
          refine ⟨World.ownsRow_nil _ _ _ _, (BG5.out.alloc _).alloc _, (BC5.out.alloc _).alloc _, (Blk.new _ _ _).alloc _, ?_, (b5.alloc b5.size _).alloc (Nat.le_trans b5.size (by simp)) _, l5, Nat.le_trans b5.size (by omega)⟩
          simpa [intA] using Blk.new (wr.alloc (.cells #[.slice none 0 0] 31)) 2 (intA [-1, -1, -1, -1]))
        have hGS : wr.heap.size < wr.heap.size + 1 := by omega
        clear H6 BC5 BG5 l5
        generalize wr.heap.size + 1 = S at *
        generalize wr.heap.size = G at *
        go_loopw [9] (fun i_ w' => ∃ (k : Nat) (A' : Option Addr) (n' c' : Nat) (s : List Fac × List Int), i_ = .int .i64 k ∧ k ≤ 4 ∧ n' ≤ 2004 * k ∧ Hid (mlGo rs 0 (ws.take k) ([], [-1, -1, -1, -1]) = s) ∧ Hid (MlI s k) ∧ Hid (s.1.length = n') ∧
          Hid (MsW w w' G S (.slice A n c) (.slice A' n' c') A' n' c' s.1 s.2)) (fun i_ _ => (4 - intOf i_).toNat)
        case atStart => exact ⟨0, none, 0, 0, _, rfl, by omega, by omega, Lib.hid rfl, Lib.hid MlI.nil, Lib.hid rfl, M6⟩
        case round =>
          obtain ⟨k, A', n', c', s, rfl, hk4, hn', HQ, HI, hsl, M1⟩ := hrel
          by_cases hlt : k < 4
          · obtain ⟨bw, ow, x, rfl, hBw, gx, _⟩ := (show Rd wr w.heap.size B 4 1 (fun s => [.string s]) ws from HW.out.below M1.out.e).str (k := k) hlt
            have HW1 := Lib.hid (fun (W : World) (h : Below w.heap.size w W) => show W.cell? ⟨bw, ow + k, none⟩ = some (.string x) from (by
              obtain ⟨bw', ow', x', hA', _, gx', c0'⟩ := (show Rd W w.heap.size (some ⟨bw, ow, none⟩) 4 1 (fun s => [.string s]) ws from HW.out.below h).str (k := k) hlt
              obtain ⟨rfl, rfl⟩ : bw = bw' ∧ ow = ow' := by injection hA' with hA'; injection hA' with h1 h2; exact ⟨h1, h2⟩
              obtain rfl : x = x' := by rw [gx] at gx'; exact Option.some.inj gx'
              exact c0'))
            have hx := Lib.hid (show okW x = true by have := Ha.out; rw [List.all_eq_true] at this; exact this x (List.mem_of_getElem? gx))
            have hstep : mlGo rs 0 (ws.take (k + 1)) ([], [-1, -1, -1, -1]) = mlStep rs k x s := by
              rw [take_succ_at gx, mlGo_take, HQ.out, List.length_take, hlw.out, Nat.min_eq_left hk4, Nat.zero_add]
            have Hstep := Lib.hid hstep
            have HI2 := Lib.hid (HI.out.step (rs := rs) hlt hx.out)
            have k0 : (0 : Int) ≤ (k : Int) := by omega
            have k1 : (k : Int) < 4 := by omega
            have hnum := lb_num hlt
            have Hnum := Lib.hid hnum
            clear gx hstep hnum
            go_wp2_with fail
            refine named fun w7 H7 => ?_
            have M7 := Lib.hid (show MsW w w7 G S (.slice A n c) (.slice A' n' c') A' n' c' s.1 s.2 by rw [H7.out]; exact M1.out)
            clear H7 M1
            obtain ⟨u, hu⟩ : ∃ u, lb k = u := ⟨_, rfl⟩
            rw [hu] at Hnum
            have HU := Lib.hid hu
            clear hu
            go_loopw [10, 11] (fun u_ i_ w' => ∃ (i : Nat) (b : Bool), i_ = .int .i64 i ∧ u_ = .bool b ∧ i ≤ n ∧ Hid (usedL (rs.take i) u = b) ∧ Hid (MsW w w' G S (.slice A n c) (.slice A' n' c') A' n' c' s.1 s.2)) (fun _ i_ _ => n - (intOf i_).toNat)
            case atStart => exact ⟨0, false, rfl, rfl, by omega, Lib.hid rfl, M7⟩
            case round =>
              obtain ⟨i, b, rfl, rfl, hin, Hb, M8⟩ := hrel
              have g0 := M8.out.i.cell 0
              have gl := M8.out.i.lt
              by_cases hlt2 : i < n
              · obtain ⟨bb, oo, y, rfl, hBr, gy, c0, c1', c2'⟩ := (HR.out.next M8.out.e).fac hlt2
                have Hst := Lib.hid (usedL_take gy u)
                have i0 : (0 : Int) ≤ (i : Int) := by omega
                have i1 : (i : Int) < (n : Int) := by omega
                clear gy
                cases b
                · have hcv0 := fun (W : World) (g : Nat) (h : W.cell? ⟨g, 0, none⟩ = some (.int .u8 (97 + (k : Int)))) => conv_letter W g 1 u (by rw [h, Hnum.out])
                  have M9 := Lib.hid ((M8.out.alloc (.cells #[.int .u8 (97 + (k : Int))] 5)).drew)
                  have hcv := hcv0 (wr.alloc (.cells #[.int .u8 (97 + (k : Int))] 5)) wr.heap.size (by simp)
                  have hcv' := hcv0 (wr.alloc (.cells #[.int .u8 (97 + (k : Int))] 5)).drew wr.heap.size (by simp)
                  clear hcv0
                  obtain ⟨b', hb'⟩ : ∃ b', decide (y.l = ⟨#[u]⟩) = b' := ⟨_, rfl⟩
                  have hq : (y.l.toList == [u]) = b' := by rw [show [u] = (⟨#[u]⟩ : ByteArray).toList by rw [ByteArray.toList_eq], tl_beq]; exact hb'
                  have Hb2 := Lib.hid (show usedL (rs.take (i + 1)) u = b' by rw [Hst.out, Hb.out, hb']; rfl)
                  clear hb'
                  have hwu : IntKind.i64.wrap (97 + (k : Int)) = 97 + (k : Int) := IntWalk.i64_in _ (by omega)
                  have hwv : IntKind.u8.wrap (97 + (k : Int)) = 97 + (k : Int) := by show (97 + (k : Int)) % 256 = _; omega
                  go_wp2_with fail
                  go_region
                  all_goals
                    go_wp2_with fail
                    go_roundw
                    case rel => exact ⟨i + 1, b', by go_num, rfl, by omega, Hb2, M9⟩
                    case measure => simp [intOf]; omega
                · have Hb2 := Lib.hid (show usedL (rs.take (i + 1)) u = true by rw [Hst.out, Hb.out]; rfl)
                  go_wp2_with fail
                  go_region
                  all_goals
                    go_wp2_with fail
                    go_roundw
                    case rel => exact ⟨i + 1, true, by go_num, rfl, by omega, Hb2, Lib.hid M8.out.drew⟩
                    case measure => simp [intOf]; omega
              · have hin' : i = n := by omega
                have hb0 := Hb.out
                rw [hin', show rs.take n = rs from List.take_of_length_le (by rw [hl.out]; omega), ← HU.out] at hb0
                clear hin' Hb
                have g1 := M8.out.i.cell 0
                have HM8 := HW1.out wr M8.out.e
                by_cases hx0 : x.size = 0
                · have e0 := size0 hx0
                  have E := Lib.hid (show mlStep rs k x s = s by unfold mlStep; rw [if_neg (fun h => h.1 hx0)])
                  clear hx0 hb0
                  cases b
                  all_goals
                    go_wp2_with fail
                    go_roundw
                    case rel => exact ⟨k + 1, A', n', c', s, by go_num, by omega, by omega, by rw [E.out] at Hstep; exact Hstep, by rw [E.out] at HI2; exact HI2, hsl, M8⟩
                    case measure => simp [intOf]; omega
                · have e0 := size1 hx0
                  have e1 := size1' hx0
                  cases b
                  · have E := Lib.hid (show mlStep rs k x s = s by unfold mlStep; rw [if_neg (fun h => by rw [hb0] at h; cases h.2)])
                    clear hx0 hb0
                    go_wp2_with fail
                    go_roundw
                    case rel => exact ⟨k + 1, A', n', c', s, by go_num, by omega, by omega, by rw [E.out] at Hstep; exact Hstep, by rw [E.out] at HI2; exact HI2, hsl, M8⟩
                    case measure => simp [intOf]; omega
                  · have E := Lib.hid (show mlStep rs k x s = (s.1 ++ raiseL s.1.length (plainL x.data.toList), s.2.set k (((s.1.length + (plainL x.data.toList).length : Nat) : Int) - 1)) by unfold mlStep; rw [if_pos ⟨hx0, hb0⟩])
                    obtain ⟨hlx, hsx⟩ := okW_let hx.out
                    have HTw := Lib.hid (wf_plain hlx)
                    have hTp := plainL_pos (w := x.data.toList) (fun e => hx0 (by rw [← byte_len, e]; rfl)) hlx
                    have hTl := plainL_len x.data.toList
                    rw [byte_len] at hTl
                    have PC := Lib.hid (fun W => l02Plain_any x W hx.out)
                    clear hb0 hx0 hlx
                    obtain ⟨T, hT⟩ : ∃ T, plainL x.data.toList = T := ⟨_, rfl⟩
                    obtain ⟨L, hL⟩ : ∃ L, T.length = L := ⟨_, rfl⟩
                    unfold RetG at PC
                    rw [hT] at E HTw hTp hTl PC
                    rw [hL] at E hTp hTl PC
                    rw [hsl.out] at E
                    have HL := Lib.hid hL
                    clear hT hL
                    go_wp2_with fail
                    refine (PC.out _).mono ?_
                    rintro e w4' ⟨A4, c4, rfl, own4, hb4'⟩
                    have M4 := Lib.hid (M8.out.next hb4')
                    obtain ⟨g4, cp4, hv4, hg40, _⟩ := own4.form hTp
                    obtain rfl : A4 = some ⟨g4, 0, none⟩ := by injection hv4
                    have d4' := (M4.out.alloc (.cells #[.slice (some ⟨g4, 0, none⟩) L c4] 31)).g.cell 0
                    have d4 := M4.out.g.cell 0
                    have l4' := M4.out.g.lt
                    have nb4 := Lib.hid (show (Value.slice A' n' c').ownBlock ≠ some g4 from fun e => by have := (M8.out.q.lt g4 e).2; omega)
                    have O4 := Lib.hid own4
                    clear hv4 own4 e0 e1 HM8 g1
                    go_wp2_with fail
                    refine named fun w5 H5 => ?_
                    have M5 := Lib.hid (show MsW w w5 G S (.slice A n c) (.slice A' n' c') A' n' c' s.1 s.2 by rw [H5.out]; exact M4.out.alloc _)
                    have O5 := Lib.hid (show w5.ownsRow wr.heap.size 75 3 (.slice (some ⟨g4, 0, none⟩) L c4) L (T.flatMap Fac.cells) by rw [H5.out]; exact O4.out.alloc _)
                    have BX := Lib.hid (show Blk w5 w4'.heap.size 31 #[.slice (some ⟨g4, 0, none⟩) L c4] by rw [H5.out]; exact Blk.new _ _ _)
                    have hGX : G < w4'.heap.size := l4'
                    clear H5 d4 d4' l4' M4 O4
                    generalize w4'.heap.size = X at *
                    generalize wr.heap.size = b4 at *
                    go_loopw [14] (fun j_ w' => ∃ (j : Nat) (A1 : Option Addr) (n1 c1 : Nat), j_ = .int .i64 j ∧ j ≤ L ∧ Hid (n1 = n' + j) ∧ Hid (MsW w w' G S (.slice A n c) (.slice A1 n1 c1) A1 n1 c1 (s.1 ++ raiseL n' (T.take j)) s.2) ∧
                      Hid (w'.ownsRow b4 75 3 (.slice (some ⟨g4, 0, none⟩) L c4) L (T.flatMap Fac.cells)) ∧ Hid (Blk w' X 31 #[.slice (some ⟨g4, 0, none⟩) L c4]) ∧ Hid ((Value.slice A1 n1 c1).ownBlock ≠ some g4)) (fun j_ _ => L - (intOf j_).toNat)
                    case atStart => exact ⟨0, A', n', c', rfl, by omega, Lib.hid rfl, Lib.hid (by simpa [raiseL] using M5.out), O5, BX, nb4⟩
                    case round =>
                      obtain ⟨j, A1, n1, c1, rfl, hj, hn1, M9, O9, X9, nb9⟩ := hrel
                      have x9 := X9.out.cell 0
                      have lx9 := X9.out.lt
                      have d9 := M9.out.g.cell 0
                      have l9 := M9.out.g.lt
                      by_cases hlt3 : j < L
                      · obtain ⟨y, hy⟩ : ∃ y, T[j]? = some y := ⟨_, List.getElem?_eq_getElem (by rw [HL.out]; exact hlt3)⟩
                        have hyd : T.getD j default = y := getD_of hy
                        have hyw := HTw.out j y hy
                        have Hrt := Lib.hid (raise_take hy (n' : Int))
                        have HC := Lib.hid (fun (W : World) (O : W.ownsRow b4 75 3 (.slice (some ⟨g4, 0, none⟩) L c4) L (T.flatMap Fac.cells)) (q : Nat) (hq : q < 3) => own_at (sz := 3) (enc := Fac.cells) (fun _ _ => rfl) O HL.out default j hlt3 q hq)
                        rw [hyd] at HC
                        have LC := Lib.hid (fun W => l02Raised_any y (n' : Int) W (fun h0 => by
                          rcases hyw with ⟨_, a0, a1, b0, b1⟩ | ⟨cc, _, hxl, _⟩
                          · exact ⟨a0, by omega, b0, by omega⟩
                          · rw [hxl] at h0; exact absurd h0 (show ¬ (1 : Nat) = 0 by omega)) (by omega) (by omega))
                        have n1b : n1 ≤ 10020 := by have := hn1.out; omega
                        have zk : (n1 + 1) * 32 ≤ 140737488355328 := by omega
                        have zkm : n1 + 1 ≤ maxLen := by unfold maxLen; omega
                        have j0 : (0 : Int) ≤ (j : Int) := by omega
                        have j1 : (j : Int) < (L : Int) := by omega
                        obtain ⟨z, hz⟩ : ∃ z, rsF (n' : Int) y = z := ⟨_, rfl⟩
                        rw [hz] at LC Hrt
                        have HS2 := Lib.hid (fun (W : World) (M : Blk W G 31 #[.slice A1 n1 c1]) (O : W.ownsRow b4 75 3 (.slice (some ⟨g4, 0, none⟩) L c4) L (T.flatMap Fac.cells)) (Xb : Blk W X 31 #[.slice (some ⟨g4, 0, none⟩) L c4]) =>
                          show W.cell? ⟨G, 0, none⟩ = some (.slice A1 n1 c1) ∧ W.cell? ⟨X, 0, none⟩ = some (.slice (some ⟨g4, 0, none⟩) L c4) ∧ W.cell? ⟨g4, j * 3, none⟩ = some (.string y.l) ∧ W.cell? ⟨g4, j * 3 + 1, none⟩ = some (.int .i64 y.a) ∧ W.cell? ⟨g4, j * 3 + 2, none⟩ = some (.int .i64 y.b) from
                          ⟨M.cell 0, Xb.cell 0, HC.out W O 0 (by omega), HC.out W O 1 (by omega), HC.out W O 2 (by omega)⟩)
                        have hS0 := HS2.out wr.drew M9.out.g.drew (own_next O9.out (Below.refl _ _).drew) X9.out.drew
                        clear hy hyd hyw hz
                        go_wp2_with fail
                        clear x9 lx9 d9 l9
                        refine wp_region_N (fun W => W.cell? ⟨G, 0, none⟩ = some (.slice A1 n1 c1) ∧ W.cell? ⟨X, 0, none⟩ = some (.slice (some ⟨g4, 0, none⟩) L c4) ∧ W.cell? ⟨g4, j * 3, none⟩ = some (.string y.l) ∧ W.cell? ⟨g4, j * 3 + 1, none⟩ = some (.int .i64 y.a) ∧ W.cell? ⟨g4, j * 3 + 2, none⟩ = some (.int .i64 y.b)) [12] (by kernel_rfl) ?_
                        refine wpAnyN_take (i := 0) (v := ?_) rfl (by kernel_rfl) (fun _ _ _ h => h) (by rfl) (fun W hW => ?_) hS0 ?_
                        rotate_left
                        · obtain ⟨z0, z1, z2, z3, z4⟩ := hW
                          go_simp
                          try with_reducible rfl
                        try simp only [Act.put, List.setIfInBounds_toArray, List.set_cons_zero, List.set_cons_succ]
                        refine wpAnyN_take (i := 1) (v := ?_) rfl (by kernel_rfl) (fun _ _ _ h => h) (by rfl) (fun W hW => ?_) hS0 ?_
                        rotate_left
                        · obtain ⟨z0, z1, z2, z3, z4⟩ := hW
                          go_simp
                          try with_reducible rfl
                        try simp only [Act.put, List.setIfInBounds_toArray, List.set_cons_zero, List.set_cons_succ]
                        refine wpAnyN_take (i := 2) (v := ?_) rfl (by kernel_rfl) (fun _ _ _ h => h) (by rfl) (fun W hW => ?_) hS0 ?_
                        rotate_left
                        · obtain ⟨z0, z1, z2, z3, z4⟩ := hW
                          go_simp
                          try with_reducible rfl
                        try simp only [Act.put, List.setIfInBounds_toArray, List.set_cons_zero, List.set_cons_succ]
                        refine wpAnyN_take (i := 3) (v := ?_) rfl (by kernel_rfl) (fun _ _ _ h => h) (by rfl) (fun W hW => ?_) hS0 ?_
                        rotate_left
                        · obtain ⟨z0, z1, z2, z3, z4⟩ := hW
                          go_simp
                          try with_reducible rfl
                        try simp only [Act.put, List.setIfInBounds_toArray, List.set_cons_zero, List.set_cons_succ]
                        refine wpAnyN_take (i := 4) (v := ?_) rfl (by kernel_rfl) (fun _ _ _ h => h) (by rfl) (fun W hW => ?_) hS0 ?_
                        rotate_left
                        · obtain ⟨z0, z1, z2, z3, z4⟩ := hW
                          go_simp
                          try with_reducible rfl
                        try simp only [Act.put, List.setIfInBounds_toArray, List.set_cons_zero, List.set_cons_succ]
                        refine wpAnyN_take (i := 5) (v := ?_) rfl (by kernel_rfl) (fun _ _ _ h => h) (by rfl) (fun W hW => ?_) hS0 ?_
                        rotate_left
                        · obtain ⟨z0, z1, z2, z3, z4⟩ := hW
                          go_simp
                          try with_reducible rfl
                        try simp only [Act.put, List.setIfInBounds_toArray, List.set_cons_zero, List.set_cons_succ]
                        refine wpAnyN_take (i := 6) (v := ?_) rfl (by kernel_rfl) (fun _ _ _ h => h) (by rfl) (fun W hW => ?_) hS0 ?_
                        rotate_left
                        · obtain ⟨z0, z1, z2, z3, z4⟩ := hW
                          go_simp
                          try with_reducible rfl
                        try simp only [Act.put, List.setIfInBounds_toArray, List.set_cons_zero, List.set_cons_succ]
                        refine wpAnyN_take (i := 7) (v := ?_) rfl (by kernel_rfl) (fun _ _ _ h => h) (by rfl) (fun W hW => ?_) hS0 ?_
                        rotate_left
                        · obtain ⟨z0, z1, z2, z3, z4⟩ := hW
                          go_simp
                          try with_reducible rfl
                        try simp only [Act.put, List.setIfInBounds_toArray, List.set_cons_zero, List.set_cons_succ]
                        refine wpAnyN_next (i := 8) rfl (by kernel_rfl) (fun K hK => ?_)
                        go_simp
                        go_wp2_with (go_at_call 77; refine (LC.out _).mono ?_; rintro e w10 ⟨rfl, hb10⟩)
                        have bm : Below wr.heap.size wr w10 := (Below.refl _ _).drew.trans hb10
                        have M10 := Lib.hid (M9.out.next bm)
                        have O10 := Lib.hid (own_next O9.out bm)
                        have X10 := Lib.hid (X9.out.next bm)
                        have M11 := Lib.hid (M10.out.alloc (.cells #[.string z.l, .int .i64 z.a, .int .i64 z.b] 75))
                        have O11 := Lib.hid (O10.out.alloc (.cells #[.string z.l, .int .i64 z.a, .int .i64 z.b] 75))
                        have X11 := Lib.hid (X10.out.alloc (.cells #[.string z.l, .int .i64 z.a, .int .i64 z.b] 75))
                        refine hK.out _ _ (fun _ => HS2.out _ M10.out.g O10.out X10.out) ?_
                        clear hK K
                        try simp only [Act.put, List.setIfInBounds_toArray, List.set_cons_zero, List.set_cons_succ]
                        refine wpAnyN_next (i := 9) rfl (by kernel_rfl) (fun K hK => ?_)
                        go_simp
                        refine hK.out _ _ (fun _ => HS2.out _ M11.out.g O11.out X11.out) ?_
                        clear hK K hS0
                        try simp only [Act.put, List.setIfInBounds_toArray, List.set_cons_zero, List.set_cons_succ]
                        refine wpAnyN_next (i := 10) rfl (by kernel_rfl) (fun K hK => ?_)
                        refine step_pushH (by rfl) _ _ _ (by rfl) w.heap.size 75 3 32 elem_rule Fac.cells A1 n1 c1 (s.1 ++ raiseL n' (T.take j)) (by rfl) M11.out.q _ z #[.string z.l, .int .i64 z.a, .int .i64 z.b] 75 (0, 0) (by rfl) (heap_alloc_new _ _) rfl rfl (one_fac _) (by omega) zk zkm M11.out.e.size ?_
                        intro A8 c8 w8 own8 hg8 hat8
                        have M12 := Lib.hid (M11.out.app own8 hg8)
                        have nb12 := Lib.hid (show (Value.slice A8 (n1 + 1) c8).ownBlock ≠ some g4 from fun e => by
                          rcases hat8 with h | h
                          · rw [h] at e; exact nb9.out e
                          · rw [h] at e
                            injection e with e
                            have h5 := (O10.out.lt g4 rfl).2
                            simp at e; omega)
                        have O12 := Lib.hid (O11.out.kept hg8 (.inr fun e => nb9.out e.symm))
                        have X12 := Lib.hid (X11.out.grown hg8 (own_blk_ne M11.out.q X11.out (by decide)))
                        have d8 := M12.out.g.cell 0
                        have f8 := M12.out.g.frozen
                        have l8 := M12.out.g.lt
                        have hS1 := HS2.out _ M12.out.g O12.out X12.out
                        refine hK.out _ _ (fun _ => hS1) ?_
                        clear hK K own8 hg8 hat8
                        try simp only [Act.put, List.setIfInBounds_toArray, List.set_cons_zero, List.set_cons_succ]
                        refine wpAnyN_next (i := 11) rfl (by kernel_rfl) (fun K hK => ?_)
                        go_simp
                        refine hK.out _ _ (fun _ => hS1) ?_
                        clear hK K hS1
                        try simp only [Act.put, List.setIfInBounds_toArray, List.set_cons_zero, List.set_cons_succ]
                        refine wpAnyN_next (i := 12) rfl (by kernel_rfl) (fun K hK => ?_)
                        go_simp
                        refine hK.out _ _ (fun h => absurd h (by decide)) ?_
                        clear hK K
                        refine wpAnyN_done (by kernel_rfl) ?_ _
                        have M13 := Lib.hid (M12.out.put (.slice A8 (n1 + 1) c8))
                        have O13 := Lib.hid (own_kept' (i := 0) O12.out M12.out.g (by decide) (.slice A8 (n1 + 1) c8))
                        have X13 := Lib.hid (X12.out.far (p := ⟨G, 0, none⟩) (show X ≠ G by omega) (.slice A8 (n1 + 1) c8))
                        clear d8 f8 l8
                        go_wp2_with fail
                        go_roundw
                        case rel => exact ⟨j + 1, A8, n1 + 1, c8, by go_num, by omega, Lib.hid (by have := hn1.out; omega), Lib.hid (by rw [Hrt.out, ← List.append_assoc]; exact M13.out), O13, X13, nb12⟩
                        case measure => simp [intOf]; omega
                      · have hjL : j = L := by omega
                        have hM := M9.out
                        rw [hjL, show T.take L = T from List.take_of_length_le (by rw [HL.out]; omega)] at hM
                        have hn1' := hn1.out
                        rw [hjL] at hn1'
                        have HM := Lib.hid hM
                        have Hn1 := Lib.hid hn1'
                        have s9 := M9.out.s.cell k
                        rw [intA_at s.2 (by rw [HI.out.st]; exact hlt)] at s9
                        have fs9 := M9.out.s.frozen
                        have ls9 := M9.out.s.lt
                        have n1b : n1 ≤ 10020 := by omega
                        have n1c : 1 ≤ n1 := by omega
                        have u1 : IntKind.i64.wrap ((n1 : Int) - 1) = (n1 : Int) - 1 := IntWalk.i64_in _ (by omega)
                        clear hM hn1' hn1 hjL
                        go_wp2_with fail
                        go_roundw
                        case rel =>
                          refine ⟨k + 1, A1, n1, c1, (s.1 ++ raiseL n' T, s.2.set k ((n1 : Int) - 1)), by go_num, by omega, by have := Hn1.out; omega, by rw [E.out, ← Hn1.out] at Hstep; exact Hstep, by rw [E.out, ← Hn1.out] at HI2; exact HI2, Lib.hid (by rw [List.length_append, raiseL_len, hsl.out, HL.out, Hn1.out]), Lib.hid ?_⟩
                          exact HM.out.tell k _
                        case measure => simp [intOf]; omega
          · have hk5 : k = 4 := by omega
            have hQ := HQ.out
            rw [hk5, show ws.take 4 = ws from List.take_of_length_le (by rw [hlw.out]; omega)] at hQ
            have HS1 := Lib.hid (show mapS1 rs ws = s from hQ)
            have hst4 := Lib.hid HI.out.b
            have hsl4 : n' ≤ 8016 := by omega
            have HI0 := Lib.hid (show MrI (s.1, []) s.1.length 0 from ⟨HI.out.wf, rfl, fun i hi => by omega, by simp⟩)
            clear hQ hk5 HQ
            go_wp2_with fail
            refine named fun w2 H2 => ?_
            have M2 := Lib.hid (show MsW w w2 G S (.slice A n c) (.slice A' n' c') A' n' c' s.1 s.2 by rw [H2.out]; exact M1.out.alloc _)
            have O2 := Lib.hid (show w2.ownsRow wr.heap.size 2 1 (.slice (some ⟨wr.heap.size, 0, none⟩) 0 0) 0 (([] : List Int).flatMap intE) by
              rw [H2.out]; simpa using World.ownsRow_made (base := wr.heap.size) (e := 2) (size := 1) wr #[] 0 (Nat.le_refl _) (by unfold maxLen; omega) rfl)
            have hSb := Lib.hid (show S < wr.heap.size from M1.out.s.lt)
            have hb20 := Lib.hid (show wr.heap.size ≤ w2.heap.size by rw [H2.out]; simp)
            clear H2 M1
            generalize wr.heap.size = b2 at *
            go_loopw [15, 16] (fun t_ i_ w' => ∃ (i : Nat) (A1 : Option Addr) (n1 c1 : Nat) (A2 : Option Addr) (c2 : Nat) (s2 : List Fac × List Int), i_ = .int .i64 i ∧ t_ = .slice A2 i c2 ∧ i ≤ n ∧ Hid (mrGo s.2 (rs.take i) (s.1, []) = s2) ∧ Hid (MrI s2 s.1.length i ∧ s.1.length ≤ s2.1.length) ∧ Hid (s2.1.length = n1) ∧
              Hid (MsW w w' G S (.slice A n c) (.slice A1 n1 c1) A1 n1 c1 s2.1 s.2) ∧ Hid (w'.ownsRow b2 2 1 (.slice A2 i c2) i (s2.2.flatMap intE)) ∧ Hid (b2 ≤ w'.heap.size)) (fun _ i_ _ => n - (intOf i_).toNat)
            case atStart => exact ⟨0, A', n', c', _, 0, _, rfl, rfl, by omega, Lib.hid rfl, Lib.hid ⟨HI0.out, Nat.le_refl _⟩, hsl, M2, O2, hb20⟩
            case round =>
              obtain ⟨i, A1, n1, c1, A2, c2, s2, rfl, rfl, hin, HQ, HI2, hs2, M1, O1, hb2⟩ := hrel
              have hn1 : n1 ≤ 8416 := by have := HI2.out.1.n; rw [hs2.out, hsl.out] at this; omega
              have g0 := M1.out.i.cell 0
              have gl := M1.out.i.lt
              by_cases hlt : i < n
              · obtain ⟨b, o, x, rfl, hBr, gx, c0, c1', c2'⟩ := (HR.out.next M1.out.e).fac hlt
                have hxw := hwf.out i x gx
                have Hst2 := Lib.hid (show mrGo s.2 (rs.take (i + 1)) (s.1, []) = mrStep s.2 x s2 by rw [take_succ_at gx, mrGo_snoc, HQ.out])
                have HI3 := Lib.hid (show MrI (mrStep s.2 x s2) s.1.length (i + 1) ∧ s.1.length ≤ (mrStep s.2 x s2).1.length from by
                  have h := HI2.out.1.step (st := s.2) (fun j hj => by have := hst4.out j hj; have := HI2.out.2; omega) hxw
                  exact ⟨h.1, Nat.le_trans HI2.out.2 h.2⟩)
                have zb := Lib.hid (show 0 ≤ wr.heap.size by omega)
                have i0 : (0 : Int) ≤ (i : Int) := by omega
                have i1 : (i : Int) < (n : Int) := by omega
                clear gx
                rcases hxw with ⟨h0, a0, a1, b0, b1⟩ | ⟨cc, hcc, hxl, hxa, hxb⟩
                · have e0 := size0 h0
                  have E0 := Lib.hid (show mrStep s.2 x s2 = (if s2.2.getD x.a.toNat 0 < 0 then (s2.1, s2.2 ++ [s2.2.getD x.b.toNat 0]) else if s2.2.getD x.b.toNat 0 < 0 then (s2.1, s2.2 ++ [s2.2.getD x.a.toNat 0]) else (s2.1 ++ [⟨⟨#[]⟩, s2.2.getD x.a.toNat 0, s2.2.getD x.b.toNat 0⟩], s2.2 ++ [(s2.1.length : Int)])) by unfold mrStep; rw [if_pos h0])
                  have hba := HI2.out.1.b x.a.toNat (by omega)
                  have hbb := HI2.out.1.b x.b.toNat (by omega)
                  rw [hs2.out] at hba hbb
                  have hst := Lib.hid HI2.out.1.st
                  obtain ⟨gs, cps, hvs, _, _⟩ := O1.out.form (by omega)
                  obtain rfl : A2 = some ⟨gs, 0, none⟩ := by injection hvs
                  have ea : wr.cell? ⟨gs, x.a.toNat, none⟩ = some (.int .i64 (s2.2.getD x.a.toNat 0)) := by simpa [intE] using own_at (enc := intE) (sz := 1) (fun _ _ => rfl) O1.out hst.out 0 x.a.toNat (by omega) 0 Nat.zero_lt_one
                  have eb : wr.cell? ⟨gs, x.b.toNat, none⟩ = some (.int .i64 (s2.2.getD x.b.toNat 0)) := by simpa [intE] using own_at (enc := intE) (sz := 1) (fun _ _ => rfl) O1.out hst.out 0 x.b.toNat (by omega) 0 Nat.zero_lt_one
                  have ha2 : x.a < (i : Int) := a1
                  have hb2' : x.b < (i : Int) := b1
                  generalize s2.2.getD x.a.toNat 0 = sa at *
                  generalize s2.2.getD x.b.toNat 0 = sb at *
                  obtain ⟨q1, q2⟩ := hba
                  obtain ⟨q3, q4⟩ := hbb
                  clear hvs h0 a1 b1
                  by_cases hsa : sa < 0
                  · have E := Lib.hid (show mrStep s.2 x s2 = (s2.1, s2.2 ++ [sb]) by rw [E0.out, if_pos hsa])
                    go_wp2_with
                      (at_builtin
                       refine wpList_pushG rfl _ _ _ rfl b2 2 1 8 elem_int intE _ i c2 s2.2 rfl (O1.out.alloc _) wr.heap.size sb #[.int .i64 sb] 2 (0, 0) rfl (heap_alloc_new _ _) rfl rfl (by simp [intE, Value.oneCell']) (by omega) (by omega) (by unfold maxLen; omega) (Nat.le_trans hb2.out (by have := zb.out; simp)) ?_
                       intro A9 c9 w9 own9 hg9 hat9
                       have M9 := Lib.hid ((M1.out.alloc (.cells #[.int .i64 sb] 2)).far (O1.out.alloc _) hSb.out hg9)
                       have O9 := Lib.hid own9; clear own9)
                    go_roundw
                    case rel => exact ⟨i + 1, A1, n1, c1, A9, c9, (s2.1, s2.2 ++ [sb]), by go_num, rfl, by omega, by rw [E.out] at Hst2; exact Hst2, by rw [E.out] at HI3; exact HI3, hs2, M9, O9, Lib.hid (Nat.le_trans hb2.out (by have := hg9.size; simp at this; omega))⟩
                    case measure => simp [intOf]; omega
                  · by_cases hsb : sb < 0
                    · have E := Lib.hid (show mrStep s.2 x s2 = (s2.1, s2.2 ++ [sa]) by rw [E0.out, if_neg hsa, if_pos hsb])
                      go_wp2_with
                        (at_builtin
                         refine wpList_pushG rfl _ _ _ rfl b2 2 1 8 elem_int intE _ i c2 s2.2 rfl (O1.out.alloc _) wr.heap.size sa #[.int .i64 sa] 2 (0, 0) rfl (heap_alloc_new _ _) rfl rfl (by simp [intE, Value.oneCell']) (by omega) (by omega) (by unfold maxLen; omega) (Nat.le_trans hb2.out (by have := zb.out; simp)) ?_
                         intro A9 c9 w9 own9 hg9 hat9
                         have M9 := Lib.hid ((M1.out.alloc (.cells #[.int .i64 sa] 2)).far (O1.out.alloc _) hSb.out hg9)
                         have O9 := Lib.hid own9; clear own9)
                      go_roundw
                      case rel => exact ⟨i + 1, A1, n1, c1, A9, c9, (s2.1, s2.2 ++ [sa]), by go_num, rfl, by omega, by rw [E.out] at Hst2; exact Hst2, by rw [E.out] at HI3; exact HI3, hs2, M9, O9, Lib.hid (Nat.le_trans hb2.out (by have := hg9.size; simp at this; omega))⟩
                      case measure => simp [intOf]; omega
                    · have E := Lib.hid (show mrStep s.2 x s2 = (s2.1 ++ [⟨⟨#[]⟩, sa, sb⟩], s2.2 ++ [(n1 : Int)]) by rw [E0.out, if_neg hsa, if_neg hsb, hs2.out])
                      have gw1 := M1.out.g.cell 0
                      have gl1 := M1.out.g.lt
                      have zk : (n1 + 1) * 32 ≤ 140737488355328 := by omega
                      have zkm : n1 + 1 ≤ maxLen := by unfold maxLen; omega
                      have M5 := Lib.hid (M1.out.alloc (.cells #[.string .empty, .int .i64 sa, .int .i64 sb] 75))
                      have O5 := Lib.hid (O1.out.alloc (.cells #[.string .empty, .int .i64 sa, .int .i64 sb] 75))
                      go_wp2_with
                        (first
                          | (at_builtin
                             refine wpList_pushG rfl _ _ _ rfl w.heap.size 75 3 32 elem_rule Fac.cells A1 n1 c1 s2.1 rfl M5.out.q wr.heap.size ⟨⟨#[]⟩, sa, sb⟩ #[.string .empty, .int .i64 sa, .int .i64 sb] 75 (0, 0) rfl (heap_alloc_new _ _) rfl rfl (one_fac _) (by omega) zk zkm M5.out.e.size ?_
                             intro A8 c8 w8 own8 hg8 hat8
                             have M8 := Lib.hid (M5.out.app own8 hg8)
                             have O8 := Lib.hid (O5.out.kept hg8 (own_ne O5.out M5.out.q (by decide)))
                             have d8 := M8.out.g.cell 0
                             have f8 := M8.out.g.frozen
                             have l8 := M8.out.g.lt
                             have M6' := Lib.hid (M8.out.put (.slice A8 (n1 + 1) c8))
                             have O6' := Lib.hid (own_kept' (i := 0) O8.out M8.out.g (by decide) (.slice A8 (n1 + 1) c8))
                             have g9 := M6'.out.g.cell 0
                             have l9 := M6'.out.g.lt
                             have um : IntKind.i64.wrap (((n1 + 1 : Nat) : Int) - 1) = (n1 : Int) := by rw [IntWalk.i64_in _ (by omega)]; omega
                             have BN0 := Blk.new (w8.setCell ⟨G, 0, none⟩ (.slice A8 (n1 + 1) c8)) 2 #[.int .i64 (n1 : Int)]
                             rw [show (w8.setCell ⟨G, 0, none⟩ (.slice A8 (n1 + 1) c8)).heap.size = w8.heap.size by simp] at BN0
                             have BN := Lib.hid BN0
                             have sz8 := Lib.hid (show b2 ≤ w8.heap.size from Nat.le_trans hb2.out (by have := hg8.size; simp at this; omega))
                             clear own8 BN0 hg8)
                          | (at_builtin
                             refine wpList_pushG rfl _ _ _ rfl b2 2 1 8 elem_int intE _ i c2 s2.2 rfl (O6'.out.alloc _) w8.heap.size (n1 : Int) #[.int .i64 (n1 : Int)] 2 (0, 0) rfl BN.out rfl rfl (by simp [intE, Value.oneCell']) (by omega) (by omega) (by unfold maxLen; omega) (Nat.le_trans sz8.out (by simp)) ?_
                             intro A9 c9 w9 own9 hg9 hat9
                             have M9 := Lib.hid ((M6'.out.alloc (.cells #[.int .i64 (n1 : Int)] 2)).far (O6'.out.alloc _) hSb.out hg9)
                             have O9 := Lib.hid own9; clear own9))
                      go_roundw
                      case rel => exact ⟨i + 1, A8, n1 + 1, c8, A9, c9, (s2.1 ++ [⟨⟨#[]⟩, sa, sb⟩], s2.2 ++ [(n1 : Int)]), by go_num, rfl, by omega, by rw [E.out] at Hst2; exact Hst2, by rw [E.out] at HI3; exact HI3, Lib.hid (by rw [List.length_append, hs2.out]; rfl), M9, O9, Lib.hid (Nat.le_trans sz8.out (by have := hg9.size; simp at this; omega))⟩
                      case measure => simp [intOf]; omega
                · obtain ⟨xl, xa, xb⟩ := x
                  simp only at hxl hxa hxb
                  subst hxl hxa hxb
                  obtain ⟨hl0, hl1⟩ := letB_num hcc
                  have E := Lib.hid (show mrStep s.2 ⟨⟨#[cc]⟩, 0, 0⟩ s2 = (s2.1, s2.2 ++ [s.2.getD (cc.toNat - 97) 0]) from rfl)
                  have hq0 : (0 : Nat) < ByteArray.size ⟨#[cc]⟩ := Nat.zero_lt_one
                  have hl2 : (97 : Int) ≤ (((⟨#[cc]⟩ : ByteArray)[0]'hq0).toNat : Int) := hl0
                  have hl3 : (((⟨#[cc]⟩ : ByteArray)[0]'hq0).toNat : Int) ≤ 100 := hl1
                  have s9 := M1.out.s.cell (((⟨#[cc]⟩ : ByteArray)[0]'hq0).toNat - 97)
                  rw [intA_at s.2 (by rw [HI.out.st]; omega)] at s9
                  have e9 : s.2.getD (((⟨#[cc]⟩ : ByteArray)[0]'hq0).toNat - 97) 0 = s.2.getD (cc.toNat - 97) 0 := rfl
                  rw [e9] at s9
                  clear e9
                  have ls9 := M1.out.s.lt
                  generalize s.2.getD (cc.toNat - 97) 0 = sv at *
                  go_wp2_with
                    (at_builtin
                     refine wpList_pushG rfl _ _ _ rfl b2 2 1 8 elem_int intE _ i c2 s2.2 rfl (O1.out.alloc _) wr.heap.size sv #[.int .i64 sv] 2 (0, 0) rfl (heap_alloc_new _ _) rfl rfl (by simp [intE, Value.oneCell']) (by omega) (by omega) (by unfold maxLen; omega) (Nat.le_trans hb2.out (by have := zb.out; simp)) ?_
                     intro A9 c9 w9 own9 hg9 hat9
                     have M9 := Lib.hid ((M1.out.alloc (.cells #[.int .i64 sv] 2)).far (O1.out.alloc _) hSb.out hg9)
                     have O9 := Lib.hid own9; clear own9)
                  go_roundw
                  case rel => exact ⟨i + 1, A1, n1, c1, A9, c9, (s2.1, s2.2 ++ [sv]), by go_num, rfl, by omega, by rw [E.out] at Hst2; exact Hst2, by rw [E.out] at HI3; exact HI3, hs2, M9, O9, Lib.hid (Nat.le_trans hb2.out (by have := hg9.size; simp at this; omega))⟩
                  case measure => simp [intOf]; omega
              · have hin' : i = n := by omega
                have hQ := HQ.out
                rw [hin', show rs.take n = rs from List.take_of_length_le (by rw [hl.out]; omega)] at hQ
                have HS2 := Lib.hid (show mapS2 rs ws = s2 by unfold mapS2; rw [HS1.out]; exact hQ)
                have HF := show mapF rs ws = (if 400 < s2.1.length then [] else if s2.2.length = 0 ∨ lastI s2.2 < 0 then [] else limF (mapT rs ws)) by unfold mapF; rw [HMO.out, HS2.out]; rfl
                have HC := show mapC rs ws = (if 400 < s2.1.length then 3 else if s2.2.length = 0 ∨ lastI s2.2 < 0 then 0 else limC (mapT rs ws)) by unfold mapC; rw [HMO.out, HS2.out]; rfl
                have HT := show mapT rs ws = trimL (s2.1.take ((lastI s2.2).toNat + 1)) by unfold mapT; rw [HS2.out]
                rw [hs2.out, HI2.out.1.st, hin'] at HF HC
                clear hQ HQ HS2
                have HF' := Lib.hid HF
                have HC' := Lib.hid HC
                have HT' := Lib.hid HT
                have g1 := M1.out.g.cell 0
                have lg1 := M1.out.g.lt
                clear HF HC HT hin'
                by_cases hbig : 400 < n1
                · have eT := Lib.hid (show mapF rs ws = [] by rw [HF'.out, if_pos hbig])
                  have eC := Lib.hid (show mapC rs ws = 3 by rw [HC'.out, if_pos hbig])
                  obtain ⟨o4, f4, l4, x5, b5'⟩ := Shut_.out wr M1.out.e M1.out.o
                  go_wp2_with fail
                  exact bodyPost_ret (v := .tuple #[.agg #[.slice none 0 0], .int .i64 3]) (by simp [results, Try.results31, go_sem, x5]) rfl ⟨none, 0, by rw [eT.out, eC.out]; rfl, by rw [eT.out]; exact World.ownsRow_nil _ _ _ _, b5'⟩
                · by_cases hn0 : n = 0
                  · have eT := Lib.hid (show mapF rs ws = [] by rw [HF'.out, if_neg hbig, if_pos (.inl hn0)])
                    have eC := Lib.hid (show mapC rs ws = 0 by rw [HC'.out, if_neg hbig, if_pos (.inl hn0)])
                    obtain ⟨o4, f4, l4, x5, b5'⟩ := Shut_.out wr M1.out.e M1.out.o
                    have i00 : i = 0 := by omega
                    subst i00
                    go_wp2_with fail
                    exact bodyPost_ret (v := .tuple #[.agg #[.slice none 0 0], .int .i64 0]) (by simp [results, Try.results31, go_sem, x5]) rfl ⟨none, 0, by rw [eT.out, eC.out]; rfl, by rw [eT.out]; exact World.ownsRow_nil _ _ _ _, b5'⟩
                  · have hi0 : ((i : Int) == 0) = false := by simp; omega
                    have hlb := Lib.hid (show -1 ≤ lastI s2.2 ∧ lastI s2.2 < (n1 : Int) by
                      have := HI2.out.1.b (i - 1) (by omega)
                      rw [hs2.out] at this
                      unfold lastI; rw [HI2.out.1.st]; exact this)
                    have hst := Lib.hid HI2.out.1.st
                    obtain ⟨gs, cps, hvs, _, hgs⟩ := O1.out.form (by omega)
                    obtain rfl : A2 = some ⟨gs, 0, none⟩ := by injection hvs
                    have el : wr.cell? ⟨gs, i - 1, none⟩ = some (.int .i64 (lastI s2.2)) := by
                      unfold lastI
                      rw [hst.out]
                      simpa [intE] using own_at (enc := intE) (sz := 1) (fun _ _ => rfl) O1.out hst.out 0 (i - 1) (by omega) 0 Nat.zero_lt_one
                    have ui : IntKind.i64.wrap ((i : Int) - 1) = (i : Int) - 1 := IntWalk.i64_in _ (by omega)
                    have ui0 : (0 : Int) ≤ (i : Int) - 1 := by omega
                    have ui1 : (i : Int) - 1 < (i : Int) := by omega
                    have uin : ((i : Int) - 1).toNat = i - 1 := by omega
                    clear hvs
                    generalize lastI s2.2 = sl at *
                    obtain ⟨hlb0, hlb1⟩ := hlb.out
                    by_cases hsl0 : sl < 0
                    · have eT := Lib.hid (show mapF rs ws = [] by rw [HF'.out, if_neg hbig, if_pos (.inr hsl0)])
                      have eC := Lib.hid (show mapC rs ws = 0 by rw [HC'.out, if_neg hbig, if_pos (.inr hsl0)])
                      obtain ⟨o4, f4, l4, x5, b5'⟩ := Shut_.out wr M1.out.e M1.out.o
                      go_wp2_with fail
                      exact bodyPost_ret (v := .tuple #[.agg #[.slice none 0 0], .int .i64 0]) (by simp [results, Try.results31, go_sem, x5]) rfl ⟨none, 0, by rw [eT.out, eC.out]; rfl, by rw [eT.out]; exact World.ownsRow_nil _ _ _ _, b5'⟩
                    · have eT0 := Lib.hid (show mapF rs ws = limF (trimL (s2.1.take (sl.toNat + 1))) by rw [HF'.out, if_neg hbig, if_neg (by omega), HT'.out])
                      have eC0 := Lib.hid (show mapC rs ws = limC (trimL (s2.1.take (sl.toNat + 1))) by rw [HC'.out, if_neg hbig, if_neg (by omega), HT'.out])
                      have hwt := Lib.hid (wf_take HI2.out.1.wf (sl.toNat + 1))
                      have hsz := Lib.hid (trimL_sz hwt.out)
                      have RO := Lib.hid (Rd.of_own (fun x _ => fac_len x) hs2.out M1.out.q)
                      have hc1 : n1 ≤ c1 := by
                        rcases M1.out.q.2 with ⟨hnil, hz⟩ | ⟨g2, cap2, cur2, hv2, _, _, h3, _⟩
                        · omega
                        · injection hv2 with _ _ h4; omega
                      have u1 : IntKind.i64.wrap (sl + 1) = sl + 1 := IntWalk.i64_in _ (by omega)
                      have j0 : (0 : Int) ≤ sl + 1 := by omega
                      have j1 : sl + 1 ≤ (c1 : Int) := by omega
                      have jn : (sl + 1).toNat = sl.toNat + 1 := by omega
                      have hfz := M1.out.g.frozen
                      have MZ := Lib.hid ((M1.out.put (.slice A1 (sl.toNat + 1) c1)).drew)
                      have RZ := Lib.hid (show Rd (wr.setCell ⟨G, 0, none⟩ (.slice A1 (sl.toNat + 1) c1)).drew (wr.setCell ⟨G, 0, none⟩ (.slice A1 (sl.toNat + 1) c1)).drew.heap.size A1 (sl.toNat + 1) 3 Fac.cells (s2.1.take (sl.toNat + 1)) from
                        rd_take (Rd.of_own (fun x _ => fac_len x) hs2.out MZ.out.q) (by omega))
                      go_wp2_with fail
                      go_region
                      all_goals
                        go_wp2_with fail
                        refine namedC fun w7 H7 => ?_
                        have M7 := Lib.hid (show MsW w w7 G S (.slice A n c) (.slice A1 (sl.toNat + 1) c1) A1 n1 c1 s2.1 s.2 by rw [H7.out]; exact MZ.out)
                        have R7 := Lib.hid (show Rd w7 w7.heap.size A1 (sl.toNat + 1) 3 Fac.cells (s2.1.take (sl.toNat + 1)) by rw [H7.out]; exact RZ.out)
                        clear H7 MZ RZ g1 lg1 hfz el
                        refine (l02Trim_any G A1 (sl.toNat + 1) c1 (s2.1.take (sl.toNat + 1)) w7 M7.out.g.lt (M7.out.g.cell 0) (by omega) R7.out hwt.out).mono ?_
                        rintro e w8 ⟨A5, c5, rfl, own5, hb8⟩
                        have M8 := Lib.hid (M7.out.next hb8)
                        have O8 := Lib.hid (own5.mono M7.out.e.size)
                        have htl : (trimL (s2.1.take (sl.toNat + 1))).length ≤ 9000 := by
                          have h1 := trimL_le (s2.1.take (sl.toNat + 1))
                          rw [List.length_take, hs2.out] at h1
                          omega
                        have hok5 := Lib.hid (fun f (hf : f ∈ trimL (s2.1.take (sl.toNat + 1))) => show f.l.size ≤ maxLen from by have := hsz.out f hf; unfold maxLen; omega)
                        generalize trimL (s2.1.take (sl.toNat + 1)) = T at *
                        have R8 := Lib.hid (Rd.of_own (fun y _ => fac_len y) rfl own5)
                        clear own5
                        rcases hb : (gOk T).isSome with _ | _
                        · have Hb := Lib.hid hb
                          have HeT := Lib.hid (show mapF rs ws = [] by rw [eT0.out]; unfold limF; rw [hb]; rfl)
                          have HeC := Lib.hid (show mapC rs ws = 3 by rw [eC0.out]; unfold limC; rw [hb]; rfl)
                          clear hb
                          go_wp2_with fail
                          refine (l02Told_no A5 _ c5 T w8 (by omega) R8.out hok5.out Hb.out).mono ?_
                          rintro e w9 ⟨rfl, hb9⟩
                          obtain ⟨o4, f4, l4, x5, b5'⟩ := Shut_.out w9 (M8.out.next hb9).e (M8.out.next hb9).o
                          go_wp2_with fail
                          exact bodyPost_ret (v := .tuple #[.agg #[.slice none 0 0], .int .i64 3]) (by simp [results, Try.results31, go_sem, x5]) rfl ⟨none, 0, by rw [HeT.out, HeC.out]; rfl, by rw [HeT.out]; exact World.ownsRow_nil _ _ _ _, b5'⟩
                        · have Hb := Lib.hid hb
                          have HeT := Lib.hid (show mapF rs ws = T by rw [eT0.out]; unfold limF; rw [hb]; rfl)
                          have HeC := Lib.hid (show mapC rs ws = 0 by rw [eC0.out]; unfold limC; rw [hb]; rfl)
                          clear hb
                          go_wp2_with fail
                          refine (l02Told_yes A5 _ c5 T w8 (by omega) R8.out hok5.out Hb.out).mono ?_
                          rintro e w9 ⟨rfl, hb9⟩
                          have M9 := Lib.hid (M8.out.next hb9)
                          have O9 := Lib.hid (own_next O8.out hb9)
                          have o9 := M9.out.o.cell 0
                          have f9 := M9.out.o.frozen
                          have l9 := M9.out.o.lt
                          have B5 := M9.out.o.set_ 0 (.slice A5 T.length c5)
                          have x5 : (w9.setCell ⟨w.heap.size + 1, 0, none⟩ (.slice A5 T.length c5)).cell? ⟨w.heap.size + 1, 0, none⟩ = some (.slice A5 T.length c5) := by rw [B5.cell 0]; rfl
                          have b5' := M9.out.e.setCell (p := ⟨w.heap.size + 1, 0, none⟩) (by simp) (.slice A5 T.length c5)
                          have Of := Lib.hid (own_kept' (i := 0) O9.out M9.out.o (by decide) (.slice A5 T.length c5))
                          clear B5
                          go_wp2_with fail
                          exact bodyPost_ret (v := .tuple #[.agg #[.slice A5 T.length c5], .int .i64 0]) (by simp [results, Try.results31, go_sem, x5]) rfl ⟨A5, c5, by rw [HeT.out, HeC.out], by rw [HeT.out]; exact Of.out, b5'⟩
  · have Hg := Lib.hid hg
    have hmo : mapOk rs ws = false := by unfold mapOk; rw [hg, hlw.out, decide_eq_false hm4]; rfl
    have eT := Lib.hid (show mapF rs ws = [] by unfold mapF; rw [if_pos hmo])
    have eC := Lib.hid (show mapC rs ws = 1 by unfold mapC; rw [if_pos hmo])
    have hm4' : ((m : Int) == 4) = false := by simp; omega
    have hm5' : ((m : Int) != 4) = true := by simp; omega
    clear hg hmo hm4
    go_enter Try.func31, Try.ntmps31
    go_wp2_with fail
    refine namedC fun w3 H3 => ?_
    obtain ⟨hb3, BG, BC⟩ := Start.out w3 H3
    clear H3
    refine (l02Ok_any w.heap.size A n c rs w3 BG.lt (BG.cell 0) (by omega) (HR.out.next hb3) HO.out true Hg.out).mono ?_
    rintro e1 w4 ⟨rfl, hb4⟩
    obtain ⟨d4, f4, l4, x5, b5⟩ := Shut_.out w4 (hb3.trans (hb4.mono hb3.size)) (BC.next hb4)
    clear BG BC
    go_wp2_with fail
    exact bodyPost_ret (v := .tuple #[.agg #[.slice none 0 0], .int .i64 1]) (by simp [results, Try.results31, go_sem, x5]) rfl ⟨none, 0, by rw [eT.out, eC.out]; rfl, by rw [eT.out]; exact World.ownsRow_nil _ _ _ _, b5⟩
end Go.Proofs.Ytkknhpailohjcaa
