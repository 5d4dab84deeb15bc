/-
  HalvingGrammar in the program: the closure that calls itself.
-/
import Derived.Test.YtikhjoianbndhaaHvM
import Derived.Test.YtikhjoianbndhaaPlainI
import Derived.Test.YtikhjoianbndhaaOrLim
import Derived.Test.YtikhjoianbndhaaFoldI
import Derived.Deep.RegionHeld3
import Derived.Deep.RegionWith
import Derived.Deep.RegionLaw
import Derived.Deep.DeepCutAuto
import Derived.Laws.EntriesVeiled
namespace Go.Proofs.Ytikhjoianbndhaa
open Go.RowKit

def meetV (G KB MB : Nat) : Value := .func (.func 39) #[] #[.pointer (some ⟨KB, 0, none⟩), .pointer (some ⟨MB, 0, none⟩), .pointer (some ⟨G, 0, none⟩)]
/-- five places that differ -/
structure HvD5 (w0 : World) (M G KB MB : Nat) : Prop where
  mg : M ≠ G
  mkb : M ≠ KB
  mm : M ≠ MB
  gk : G ≠ KB
  gm : G ≠ MB
  km : KB ≠ MB
  m0 : w0.heap.size ≤ M
  g0 : w0.heap.size ≤ G
/-- 'HalvingGrammar' under way -/
structure HvW (w0 W : World) (M G KB MB : Nat) (A : Option Addr) (n c : Nat) (rs : List Fac) (mm : List (ByteArray × Value)) : Prop where
  q : W.ownsRow w0.heap.size 44 3 (.slice A n c) n (rs.flatMap Fac.cells)
  g : Blk W G 24 #[.slice A n c]
  k : Blk W KB 65 #[.map (some M)]
  f : Blk W MB 66 #[meetV G KB MB]
  m : MapIs W M strK mm
  e : Below w0.heap.size w0 W
/-- what a call leaves as it was: all but the map, the grammar's block and the row of rules -/
structure HvF (W W' : World) (M G : Nat) (v v' : Value) : Prop where
  size : W.heap.size ≤ W'.heap.size
  kept : ∀ x, x < W.heap.size → x ≠ M → x ≠ G → some x ≠ v.ownBlock → W'.heap[x]? = W.heap[x]?
  row : v'.ownBlock = v.ownBlock ∨ ∀ x, v'.ownBlock = some x → W.heap.size ≤ x
section
variable {w0 W W' W'' : World} {M G KB MB : Nat} {A : Option Addr} {n c : Nat} {rs : List Fac} {mm : List (ByteArray × Value)} {v v' v'' : Value}
theorem HvF.of_below (hb : Below W.heap.size W W') : HvF W W' M G v v := ⟨hb.size, fun x hx _ _ _ => hb.block x hx, .inl rfl⟩
theorem HvF.trans (h1 : HvF W W' M G v v') (h2 : HvF W' W'' M G v' v'') : HvF W W'' M G v v'' := by
  refine ⟨Nat.le_trans h1.size h2.size, fun x hx hM hG hv => ?_, ?_⟩
  · rw [h2.kept x (Nat.lt_of_lt_of_le hx h1.size) hM hG (fun e => ?_), h1.kept x hx hM hG hv]
    rcases h1.row with q | q
    · rw [q] at e; exact hv e
    · have := q x e.symm; omega
  · rcases h2.row with q | q
    · rw [q]; exact h1.row
    · exact .inr fun x hx => Nat.le_trans h1.size (q x hx)
theorem HvF.box (h : HvF W W' M G v v') {x : Nat} (hx : W.heap.size ≤ x) (i : Nat) (u : Value) : HvF W (W'.setCell ⟨x, i, none⟩ u) M G v v' := by
  refine ⟨by have := h.size; have h2 := (gb_set W' x i u).4; omega, fun y hy hM hG hv => ?_, h.row⟩
  rw [Below.heap_setCell W' ⟨x, i, none⟩ u y (show y ≠ x by omega)]
  exact h.kept y hy hM hG hv
theorem HvF.of_grown (hg : W.grownBy W' v.ownBlock) (hat : v'.ownBlock = v.ownBlock ∨ v'.ownBlock = some W.heap.size) : HvF W W' M G v v' :=
  ⟨hg.4, fun x hx _ _ hv => hg.block x hx hv, hat.imp id fun e x hx => by rw [e] at hx; injection hx with hx; omega⟩
theorem HvF.setG (h : HvF W W' M G v v') (u : Value) : HvF W (W'.setCell ⟨G, 0, none⟩ u) M G v v' := by
  refine ⟨by have := h.size; have h2 := (gb_set W' G 0 u).4; omega, fun y hy hM hG hv => ?_, h.row⟩
  rw [Below.heap_setCell W' ⟨G, 0, none⟩ u y hG]
  exact h.kept y hy hM hG hv
theorem HvF.putM (h : HvF W W' M G v v') (hg : W'.grownBy W'' (some M)) : HvF W W'' M G v v' := by
  refine ⟨Nat.le_trans h.size hg.4, fun y hy hM hG hv => ?_, h.row⟩
  rw [hg.block y (Nat.lt_of_lt_of_le hy h.size) (by intro e; injection e with e; exact hM e)]
  exact h.kept y hy hM hG hv
theorem HvF.blk (h : HvF W W' M G v v') {x : Nat} {t : TypeId} {cs : Array Value} (hB : Blk W x t cs) (hM : x ≠ M) (hG : x ≠ G) (hv : some x ≠ v.ownBlock) : Blk W' x t cs := (h.kept x hB.lt hM hG hv).trans hB
theorem HvW.next (h : HvW w0 W M G KB MB A n c rs mm) (hb : Below W.heap.size W W') : HvW w0 W' M G KB MB A n c rs mm :=
  ⟨own_next h.q hb, h.g.next hb, h.k.next hb, h.f.next hb, h.m.next hb, h.e.trans (hb.mono h.e.size)⟩
theorem HvW.alloc (h : HvW w0 W M G KB MB A n c rs mm) (o : Obj) : HvW w0 (W.alloc o) M G KB MB A n c rs mm := h.next ((Below.refl _ _).alloc (Nat.le_refl _) _)
/-- a cell of a block of the call's own -/
theorem HvW.box (h : HvW w0 W M G KB MB A n c rs mm) {x : Nat} (hx : w0.heap.size ≤ x) (hG : x ≠ G) (hK : x ≠ KB) (hF : x ≠ MB) (hM : x ≠ M) (hv : some x ≠ (Value.slice A n c).ownBlock) (i : Nat) (u : Value) : HvW w0 (W.setCell ⟨x, i, none⟩ u) M G KB MB A n c rs mm := by
  refine ⟨h.q.kept (gb_set W x i u) ?_, h.g.far (Ne.symm hG) u, h.k.far (Ne.symm hK) u, h.f.far (Ne.symm hF) u, h.m.far (Ne.symm hM) u, h.e.setCell hx u⟩
  cases hq : (Value.slice A n c).ownBlock with
  | none => exact .inl rfl
  | some q => exact .inr fun e => hv (by rw [hq]; exact e.symm)
theorem HvW.push (h : HvW w0 W M G KB MB A n c rs mm) (d : HvD5 w0 M G KB MB) {A8 : Option Addr} {k8 c8 : Nat} {rs' : List Fac} (hq : W'.ownsRow w0.heap.size 44 3 (.slice A8 k8 c8) k8 (rs'.flatMap Fac.cells)) (hg : W.grownBy W' (Value.slice A n c).ownBlock) :
    HvW w0 (W'.setCell ⟨G, 0, none⟩ (.slice A8 k8 c8)) M G KB MB A8 k8 c8 rs' mm := by
  have hg' := h.g.grown hg (own_blk_ne h.q h.g (by decide))
  have hk' := h.k.grown hg (own_blk_ne h.q h.k (by decide))
  have hf' := h.f.grown hg (own_blk_ne h.q h.f (by decide))
  have hm' := h.m.grown hg (h.m.ne_own h.q)
  have he' := h.e.grown hg h.e.size (own_ge h.q)
  exact ⟨own_kept' hq hg' (by decide) _, hg'.set_ 0 _, hk'.far (Ne.symm d.gk) _, hf'.far (Ne.symm d.gm) _, hm'.far d.mg _, he'.setCell d.g0 _⟩
theorem HvW.put (h : HvW w0 W M G KB MB A n c rs mm) (d : HvD5 w0 M G KB MB) {mm' : List (ByteArray × Value)} (hm : MapIs W' M strK mm') (hg : W.grownBy W' (some M)) (hb : Below w0.heap.size w0 W') : HvW w0 W' M G KB MB A n c rs mm' := by
  refine ⟨h.q.kept hg ?_, h.g.grown hg (by intro e; injection e with e; exact d.mg e.symm), h.k.grown hg (by intro e; injection e with e; exact d.mkb e.symm), h.f.grown hg (by intro e; injection e with e; exact d.mm e.symm), hm, hb⟩
  have := h.m.ne_own h.q
  exact .inr fun e => this e.symm
end
def MapH (mm : List (ByteArray × Value)) (ws : List ByteArray) : Prop := ∀ x, mget x mm = if memS x ws = true then some (.int .i64 (findS x ws 0)) else none
theorem MapH.put {mm : List (ByteArray × Value)} {ws : List ByteArray} (h : MapH mm ws) {s : ByteArray} (hs : s ∉ ws) : MapH (mput s (.int .i64 (ws.length : Int)) mm) (ws ++ [s]) := fun x => by
  rw [mget_mput]
  by_cases hx : x = s
  · subst hx
    rw [if_pos rfl, if_pos (memS_iff.2 (by simp)), findS_end hs]; simp
  · rw [if_neg hx, h x]
    by_cases hm : x ∈ ws
    · rw [if_pos (memS_iff.2 hm), if_pos (memS_iff.2 (by simp [hm])), findS_app x [s] ws 0 hm]
    · rw [if_neg (fun e => hm (memS_iff.1 e)), if_neg (fun e => by have := memS_iff.1 e; simp at this; rcases this with q | q; exact hm q; exact hx q)]
/-- what a call of the closure answers -/
def HvP (w0 W : World) (M G KB MB : Nat) (v : Value) (s : ByteArray) (st : HvS) (e : Ending) (W' : World) : Prop :=
  ∃ A' c' mm', e = .returned (.int .i64 (findS s st.ws 0)) ∧ HvW w0 W' M G KB MB A' st.rs.length c' st.rs mm' ∧ MapH mm' st.ws ∧ HvF W W' M G v (.slice A' st.rs.length c')
theorem zero_int (w : World) : (zeroValue 3).run Try.prog w = .ok (.int .i64 0) w := by kernel_rfl
set_option maxHeartbeats 4000000 in
set_option maxRecDepth 100000 in
theorem meet_any (w0 : World) (M G KB MB : Nat) (d : HvD5 w0 M G KB MB) : ∀ (k : Nat) (s : ByteArray) (st : HvS) (A : Option Addr) (n c : Nat) (mm : List (ByteArray × Value)) (W : World), s.size = k → WordOk s → HvI st → st.rs.length = n → n + 2 * k ≤ 4100 → MapH mm st.ws → HvW w0 W M G KB MB A n c st.rs mm →
    Calls Try.prog 39 #[.string s, .pointer (some ⟨KB, 0, none⟩), .pointer (some ⟨MB, 0, none⟩), .pointer (some ⟨G, 0, none⟩)] W (HvP w0 W M G KB MB (.slice A n c) s (hv s st)) := by
  intro k
  induction k using Nat.strongRecOn with
  | ind k ih =>
    intro s st A n c mm W hk hw hi hn hn2 hm hW
    subst hk
    have IH := Lib.hid ih; clear ih
    have HD := Lib.hid (hv_do s.size s st rfl hw hi)
    have P0 := Lib.hid hW
    have HM := Lib.hid hm
    have D := Lib.hid d
    have HN := Lib.hid hn
    have HI := Lib.hid hi
    have HWd := Lib.hid hw
    have hs1 := hw.1
    have hs2 := hw.2.1
    have et := enterOk Try.func39 (by kernel_rfl) (by kernel_rfl)
    unfold EnterOk at et
    have kc := P0.out.k.cell 0
    have kl := P0.out.k.lt
    have hmp := hm s
    clear hW hi hn hw
    by_cases hmem : s ∈ st.ws
    · rw [if_pos (memS_iff.2 hmem)] at hmp
      obtain ⟨y, hy⟩ : ∃ y, findS s st.ws 0 = y := ⟨_, rfl⟩
      rw [hy] at hmp
      have e1 := Lib.hid (show (mget s mm).getD (.int .i64 0) = .int .i64 y by rw [hmp]; rfl)
      have e2 := Lib.hid (show (mget s mm).isSome = true by rw [hmp]; rfl)
      rw [hv_old hmem]
      have HY := Lib.hid hy
      clear hmp hmem hy hm
      go_enter Try.func39, Try.ntmps39
      go_wp2_with
        (at_lookup
         refine wpList_lookOk rfl _ _ rfl (str_ok Try.underlying9) Try.underlying65 (zero_int _) rfl s rfl P0.out.m ?_
         rw [e1.out, e2.out])
      go_ret
      exact ⟨A, c, mm, by rw [HY.out]; rfl, by rw [HN.out]; exact P0.out, HM.out, by rw [HN.out]; exact HvF.of_below (Below.refl _ _)⟩
    · rw [if_neg (fun e => hmem (memS_iff.1 e))] at hmp
      have e1 := Lib.hid (show (mget s mm).getD (.int .i64 0) = .int .i64 0 by rw [hmp]; rfl)
      have e2 := Lib.hid (show (mget s mm).isSome = false by rw [hmp]; rfl)
      have HMem := Lib.hid hmem
      obtain ⟨h, hh⟩ : ∃ h, (s.size + 1) / 2 = h := ⟨_, rfl⟩
      have u1 : IntKind.i64.wrap ((s.size : Int) + 1) = (s.size : Int) + 1 := IntWalk.i64_in _ (by omega)
      have u2 : Int.tdiv ((s.size : Int) + 1) 2 = (h : Int) := by rw [Int.tdiv_eq_ediv_of_nonneg (by omega)]; omega
      have u3 : IntKind.i64.wrap (h : Int) = (h : Int) := IntWalk.i64_in _ (by omega)
      have P1 := Lib.hid (P0.out.alloc (.cells #[.string s, .int .i64 0, .int .i64 0] 44))
      have BX1 := Lib.hid (Blk.new W 44 #[.string s, .int .i64 0, .int .i64 0])
      have F1 := Lib.hid (HvF.of_below (M := M) (G := G) (v := .slice A n c) ((Below.refl W.heap.size W).alloc (Nat.le_refl _) (.cells #[.string s, .int .i64 0, .int .i64 0] 44)))
      have HH := Lib.hid hh
      clear hmp hmem hm hh
      go_enter Try.func39, Try.ntmps39
      go_upto_if 27 with
        (at_lookup
         refine wpList_lookOk rfl _ _ rfl (str_ok Try.underlying9) Try.underlying65 (zero_int _) rfl s rfl P0.out.m ?_
         rw [e1.out, e2.out])
      clear kc kl e1 e2
      go_cut [] (fun wx => ∃ (A2 : Option Addr) (n2 c2 : Nat) (mm2 : List (ByteArray × Value)) (st2 : HvS) (y : Fac), Hid (HvW w0 wx M G KB MB A2 n2 c2 st2.rs mm2) ∧ Hid (MapH mm2 st2.ws) ∧ Hid (Blk wx W.heap.size 44 #[.string y.l, .int .i64 y.a, .int .i64 y.b]) ∧
        Hid (HvF W wx M G (.slice A n c) (.slice A2 n2 c2)) ∧ Hid (hv s st = ⟨st2.ws ++ [s], st2.rs ++ [y]⟩) ∧ Hid (s ∉ st2.ws) ∧ Hid (st2.rs.length = n2) ∧ Hid (st2.ws.length = n2) ∧ n2 ≤ 4100)
      case first =>
        by_cases h1 : 1 < s.size
        · have eL := hvL_size s
          have eR := hvR_size s
          rw [HH.out] at eL eR
          have hh := HH.out
          have exL : s.extract 0 h = hvL s := by unfold hvL; rw [hh]
          have exR : s.extract h s.size = hvR s := by unfold hvR; rw [hh]
          have hwL : WordOk (hvL s) := wordOk_part HWd.out (show 0 < (hvL s).size by omega)
          have hwR : WordOk (hvR s) := wordOk_part HWd.out (show 0 < (hvR s).size by omega)
          have dL := hv_do (hvL s).size (hvL s) st rfl hwL HI.out
          have hdl := dL.len
          rw [HN.out] at hdl
          have hR : ∀ A3 n3 c3 mm3 (W3 : World), (hv (hvL s) st).rs.length = n3 → n3 + 2 * (hvR s).size ≤ 4100 → MapH mm3 (hv (hvL s) st).ws → HvW w0 W3 M G KB MB A3 n3 c3 (hv (hvL s) st).rs mm3 →
              Calls Try.prog 39 #[.string (s.extract h s.size), .pointer (some ⟨KB, 0, none⟩), .pointer (some ⟨MB, 0, none⟩), .pointer (some ⟨G, 0, none⟩)] W3 (HvP w0 W3 M G KB MB (.slice A3 n3 c3) (hvR s) (hv (hvR s) (hv (hvL s) st))) := by
            intro A3 n3 c3 mm3 W3 h1 h2
            rw [exR]
            exact IH.out (hvR s).size (by omega) (hvR s) (hv (hvL s) st) A3 n3 c3 mm3 W3 rfl hwR dL.i h1 h2
          have hL : Calls Try.prog 39 #[.string (s.extract 0 h), .pointer (some ⟨KB, 0, none⟩), .pointer (some ⟨MB, 0, none⟩), .pointer (some ⟨G, 0, none⟩)] (W.alloc (.cells #[.string s, .int .i64 0, .int .i64 0] 44)).drew
              (HvP w0 (W.alloc (.cells #[.string s, .int .i64 0, .int .i64 0] 44)).drew M G KB MB (.slice A n c) (hvL s) (hv (hvL s) st)) := by
            rw [exL]
            exact IH.out (hvL s).size (by omega) (hvL s) st A n c mm (W.alloc (.cells #[.string s, .int .i64 0, .int .i64 0] 44)).drew rfl hwL HI.out HN.out (by omega) HM.out (P1.out.next (Below.refl _ _).drew)
          have hpe := hv_pair HMem.out h1
          have dR := hv_do (hvR s).size (hvR s) (hv (hvL s) st) rfl hwR dL.i
          have hne : s ∉ (hv (hvR s) (hv (hvL s) st)).ws := by
            obtain ⟨ex1, e1, x1⟩ := dL.ext
            obtain ⟨ex2, e2, x2⟩ := dR.ext
            rw [e2, e1]
            intro h
            rcases List.mem_append.1 h with h | h
            · rcases List.mem_append.1 h with h | h
              · exact HMem.out h
              · have := x1 s h; omega
            · have := x2 s h; omega
          have hdr := dR.len
          have fL := findS_lt dL.mem
          have fR := findS_lt dR.mem
          have ll := dL.i.len
          have lr := dR.i.len
          have HR := Lib.hid hR
          have HL := Lib.hid hL
          have HPe := Lib.hid hpe
          have HNe := Lib.hid hne
          have HdI := Lib.hid dR.i
          generalize hv (hvR s) (hv (hvL s) st) = s2 at *
          generalize hv (hvL s) st = s1 at *
          obtain ⟨n1, hn1⟩ : ∃ n1, s1.rs.length = n1 := ⟨_, rfl⟩
          obtain ⟨n2, hn2e⟩ : ∃ n2, s2.rs.length = n2 := ⟨_, rfl⟩
          obtain ⟨a, ha⟩ : ∃ a, findS (hvL s) s1.ws 0 = a := ⟨_, rfl⟩
          obtain ⟨b, hb⟩ : ∃ b, findS (hvR s) s2.ws 0 = b := ⟨_, rfl⟩
          rw [ha] at fL HPe
          rw [hb] at fR HPe
          have HA := Lib.hid ha
          have HB := Lib.hid hb
          have HN1 := Lib.hid hn1
          have HN2 := Lib.hid hn2e
          rw [hn1] at hdl hdr ll
          rw [hn2e] at hdr lr
          have ra : 0 ≤ a ∧ a ≤ 4100 := ⟨fL.1, by omega⟩
          have rb : 0 ≤ b ∧ b ≤ 4100 := ⟨fR.1, by omega⟩
          have HLr := Lib.hid lr
          have hsz : (hvL s).size + (hvR s).size = s.size := by omega
          have q0 : (0 : Int) ≤ (h : Int) := by omega
          have q1 : (h : Int) ≤ (s.size : Int) := by omega
          have h1' : (1 : Int) < (s.size : Int) := by omega
          have P1d := Lib.hid (P1.out.next (Below.refl _ _).drew)
          have fc : (W.alloc (.cells #[.string s, .int .i64 0, .int .i64 0] 44)).drew.cell? ⟨MB, 0, none⟩ = some (meetV G KB MB) := P1d.out.f.cell 0
          have fl := P1d.out.f.lt
          unfold meetV at fc
          have wlt : ∀ q, (Value.slice A n c).ownBlock = some q → q < W.heap.size := fun q hq => (P0.out.q.lt q hq).2
          have HWl := Lib.hid wlt
          have n2b : n2 ≤ 4100 := by omega
          have n1b : n1 + 2 * (hvR s).size ≤ 4100 := by omega
          have zM : W.heap.size ≠ M := by have := P0.out.m.lt; omega
          have zG : W.heap.size ≠ G := by have := P0.out.g.lt; omega
          have zK : W.heap.size ≠ KB := by have := P0.out.k.lt; omega
          have zF : W.heap.size ≠ MB := by have := P0.out.f.lt; omega
          have z0 : w0.heap.size ≤ W.heap.size := P0.out.e.size
          have PC := Lib.hid (fun W => pairInt_any a b W (by omega) (by omega))
          clear hh exL exR hwL hwR dL hR hL hpe dR hne fL fR ll lr hn1 hn2e ha hb wlt eL eR h1 IH
          go_wp2_with fail
          go_region_law
            (first
              | (go_simp
                 go_wp2_with
                   (go_at_call 39
                    refine HL.out.mono ?_
                    rintro e w3 ⟨A3, c3, mm3, he, p3, hm3, f3⟩
                    rw [HA.out] at he
                    subst he
                    rw [HN1.out] at p3 f3
                    have P3 := Lib.hid p3
                    have HM3 := Lib.hid hm3
                    have F3 := Lib.hid f3
                    clear p3 hm3 f3)))
          all_goals
            have BX3 := Lib.hid (F3.out.blk (BX1.out.next (Below.refl _ _).drew) zM zG (fun e => by have := HWl.out _ e.symm; omega))
            have P3d := Lib.hid (P3.out.next (Below.refl _ _).drew)
            have HR3 := Lib.hid (HR.out A3 n1 c3 mm3 w3.drew HN1.out n1b HM3.out P3d.out)
            have fc3 : w3.drew.cell? ⟨MB, 0, none⟩ = some (meetV G KB MB) := P3d.out.f.cell 0
            have fl3 := P3d.out.f.lt
            unfold meetV at fc3
            clear fc fl
            go_wp2_with fail
            go_region_law
              (go_simp
               go_wp2_with
                     (first
                      | (go_at_call 39
                         refine HR3.out.mono ?_
                         rintro e w4 ⟨A4, c4, mm4, he, p4, hm4, f4⟩
                         rw [HB.out] at he
                         subst he
                         rw [HN2.out] at p4 f4
                         have P4 := Lib.hid p4
                         have HM4 := Lib.hid hm4
                         have F4 := Lib.hid ((F3.out.trans (HvF.of_below (Below.refl _ _).drew)).trans f4)
                         have BX4 := Lib.hid (F4.out.blk (BX1.out.next (Below.refl _ _).drew) zM zG (fun e => by have := HWl.out _ e.symm; omega))
                         clear p4 hm4 f4)
                      | (go_at_call 40
                         refine (PC.out _).mono ?_
                         rintro e w5 ⟨rfl, hb5⟩
                         have P5 := Lib.hid (P4.out.next hb5)
                         have F5 := Lib.hid (F4.out.trans (HvF.of_below hb5))
                         have BX5 := Lib.hid (BX4.out.next hb5)
                         have m5 := BX5.out.three
                         have m50 := m5.1
                         have m51 := m5.2.1
                         have m52 := m5.2.2
                         have f5 := BX5.out.frozen
                         have l5 := BX5.out.lt)))
            all_goals
              have ne4 : some W.heap.size ≠ (Value.slice A4 n2 c4).ownBlock := by
                intro e
                rcases F4.out.row with q | q
                · rw [q] at e; have := HWl.out _ e.symm; omega
                · have h9 := q _ e.symm
                  have h8 : (W.alloc (.cells #[.string s, .int .i64 0, .int .i64 0] 44)).drew.heap.size = W.heap.size + 1 := by simp
                  omega
              have BX6 := Lib.hid (((BX5.out.set_ 0 (.string .empty)).set_ 1 (.int .i64 a)).set_ 2 (.int .i64 b))
              have P6 := Lib.hid (((P5.out.box z0 zG zK zF zM ne4 0 (.string .empty)).box z0 zG zK zF zM ne4 1 (.int .i64 a)).box z0 zG zK zF zM ne4 2 (.int .i64 b))
              have F6 := Lib.hid (((((F1.out.trans (HvF.of_below (Below.refl _ _).drew)).trans F5.out).box (Nat.le_refl _) 0 (.string .empty)).box (Nat.le_refl _) 1 (.int .i64 a)).box (Nat.le_refl _) 2 (.int .i64 b))
              go_wp2_with fail
              go_meet
              exact ⟨A4, n2, c4, mm4, s2, ⟨⟨#[]⟩, a, b⟩, P6, HM4, BX6, F6, HPe, HNe, HN2, Lib.hid HLr.out.symm, n2b⟩
        · go_wp2_with fail
          go_meet
          exact ⟨A, n, c, mm, st, ⟨s, 0, 0⟩, P1, HM, BX1, F1, Lib.hid (hv_one HMem.out h1), HMem, HN, Lib.hid (by rw [← HI.out.len, HN.out]), by omega⟩
      case rest =>
        obtain ⟨A2, n2, c2, mm2, st2, y, P2, HM2, BX2, F2, HE, HMem2, HN2, HN2', hn2'⟩ := hcut
        have gc := P2.out.g.cell 0
        have gl := P2.out.g.lt
        obtain ⟨x0, x1, x2⟩ := BX2.out.three
        have P3 := Lib.hid (P2.out.alloc (.cells #[.string y.l, .int .i64 y.a, .int .i64 y.b] 44))
        have N3 := Lib.hid (news1 (y := y) (Blk.new wc 44 #[.string y.l, .int .i64 y.a, .int .i64 y.b]))
        have F3 := Lib.hid (F2.out.trans (HvF.of_below (M := M) (G := G) (v := .slice A2 n2 c2) ((Below.refl wc.heap.size wc).alloc (Nat.le_refl _) (.cells #[.string y.l, .int .i64 y.a, .int .i64 y.b] 44))))
        have v1 : IntKind.i64.wrap ((n2 : Int) + 1 - 1) = (n2 : Int) := by rw [IntWalk.i64_in _ (by omega)]; omega
        have v2 : IntKind.i64.wrap (n2 : Int) = (n2 : Int) := IntWalk.i64_in _ (by omega)
        clear F1 BX1 P1
        go_wp2_with
          (first
            | (at_mapUpdate
               refine wpList_put (w0 := w0) rfl _ _ _ rfl (str_ok Try.underlying9) Try.underlying65 rfl s (.int .i64 n2) rfl rfl P4.out.m w0.heap.size rfl D.out.m0 P4.out.e ?_
               intro w9 hm9 hg9 hb9
               have P9 := Lib.hid (P4.out.put D.out hm9 hg9 hb9)
               have F9 := Lib.hid (F4.out.putM hg9)
               have k9 := P9.out.k.cell 0
               have kl9 := P9.out.k.lt
               have HM9 := Lib.hid (HM2.out.put HMem2.out)
               rw [HN2'.out] at HM9
               have lk9 := (show (Instr.lookup 65 (.map (some M)) (.string s) false).run Try.prog w9 = .ok (.int .i64 (n2 : Int)) w9 by
                 have := hm9.look (str_ok Try.underlying9) Try.underlying65 (zero_int w9) s
                 rw [mget_mput, if_pos rfl] at this; exact this))
            | (at_builtin
               refine wpList_app rfl _ _ _ rfl w0.heap.size 44 3 32 elem_rule Fac.cells A2 n2 c2 st2.rs rfl P3.out.q ⟨wc.heap.size, 0, none⟩ 1 1 [y] rfl rfl (by omega) N3.out (fun x _ => fac_len x) (fun x _ => one_fac x) (by omega) (by omega) (by unfold maxLen; omega) P3.out.e.size ?_
               intro A8 c8 w8 own8 hg8 hat8
               have P4 := Lib.hid (P3.out.push D.out own8 hg8)
               have F4 := Lib.hid ((F3.out.trans (HvF.of_grown (M := M) (G := G) hg8 hat8)).setG (.slice A8 (n2 + 1) c8))
               have BG := P3.out.g.grown hg8 (own_blk_ne P3.out.q P3.out.g (by decide))
               have g8 := BG.cell 0
               have gf8 := BG.frozen
               have gl8 := BG.lt
               have g9 := P4.out.g.cell 0
               have gl9 := P4.out.g.lt
               have k8 := P4.out.k.cell 0
               have kl8 := P4.out.k.lt))
        go_ret
        rw [HE.out]
        have hl := show (st2.rs ++ [y]).length = n2 + 1 by rw [List.length_append, HN2.out]; rfl
        refine ⟨A8, c8, _, ?_, ?_, HM9.out, ?_⟩
        · show _ = Ending.returned (.int .i64 (findS s (st2.ws ++ [s]) 0))
          rw [findS_end HMem2.out, HN2'.out, Int.zero_add]; rfl
        · show HvW w0 w9 M G KB MB A8 (st2.rs ++ [y]).length c8 (st2.rs ++ [y]) _
          rw [hl]; exact P9.out
        · show HvF W w9 M G (.slice A n c) (.slice A8 (st2.rs ++ [y]).length c8)
          rw [hl]; exact F9.out
def hvF (s : ByteArray) : List Fac := if okW s = true then limF (hvG s) else []
def hvC (s : ByteArray) : Int := if okW s = true then limC (hvG s) else 1
theorem hvF_len (s : ByteArray) : (hvF s).length ≤ 1048576 := by
  unfold hvF
  split
  · rename_i h
    have := (hvG_ok h).2.1
    unfold limF
    split
    · omega
    · simp
  · simp
theorem wf_size' {rs : List Fac} (h : WF rs) : ∀ f ∈ rs, f.l.size ≤ maxLen := by
  intro f hf
  obtain ⟨k, hk, rfl⟩ := List.getElem_of_mem hf
  rcases h k _ (List.getElem?_eq_getElem hk) with q | ⟨c, _, q, _⟩
  · rw [q.1]; exact Nat.zero_le _
  · rw [q]; show 1 ≤ maxLen; unfold maxLen; omega
set_option maxHeartbeats 4000000 in
set_option maxRecDepth 100000 in
theorem implHalv_any (s : ByteArray) (w : World) (hs : s.size ≤ 1048576) : Calls Try.prog 15 #[.string s] w (RetGC w (hvF s) (hvC s)) := by
  rcases ho : okW s with _ | _
  · have Ho := Lib.hid ho
    have hT := Lib.hid (show hvF s = [] by unfold hvF; rw [ho]; rfl)
    have hC := Lib.hid (show hvC s = 1 by unfold hvC; rw [ho]; rfl)
    rw [hT.out, hC.out]
    clear ho hT hC
    go_enter Try.func15, Try.ntmps15
    go_wp2_with fail
    refine (validWord_any s false _ (by unfold maxLen; omega) Ho.out).mono ?_
    rintro e w1 ⟨rfl, hb1⟩
    have B1 := (Blk.new w 24 #[.slice none 0 0]).next hb1
    have b1 : Below w.heap.size w w1 := ((Below.refl w.heap.size w).alloc (Nat.le_refl _) (.cells #[.slice none 0 0] 24)).trans (hb1.mono (by simp))
    have d1 := B1.cell 0
    have f1 := B1.frozen
    have l1 := B1.lt
    have B5 := B1.set_ 0 (.slice none 0 0)
    have x5 : (w1.setCell ⟨w.heap.size, 0, none⟩ (.slice none 0 0)).cell? ⟨w.heap.size, 0, none⟩ = some (.slice none 0 0) := by rw [B5.cell 0]; rfl
    have b5 := b1.setCell (p := ⟨w.heap.size, 0, none⟩) (Nat.le_refl _) (.slice none 0 0)
    clear B5 B1
    go_wp2_with fail
    refine bodyPost_ret (v := .tuple #[.agg #[.slice none 0 0], .int .i64 1]) (by simp [results, Try.results15, go_sem, x5]) rfl ⟨none, 0, rfl, World.ownsRow_nil _ _ _ _, b5⟩
  · have Ho := Lib.hid ho
    have hT := Lib.hid (show hvF s = limF (hvG s) by unfold hvF; rw [ho]; rfl)
    have hC := Lib.hid (show hvC s = limC (hvG s) by unfold hvC; rw [ho]; rfl)
    rw [hT.out, hC.out]
    have hs2 := okW_len2 ho
    have hgk := hvG_ok ho
    have HGk := Lib.hid hgk
    clear ho hT hC hgk
    have hmm := @run_makeMap Try.prog
    have hmf : ∀ (fn : Fn) (first cap : Array Value) (w : World), (Instr.makeFunc fn first cap).run Try.prog w = .ok (.func fn first cap) w := fun _ _ _ _ => rfl
    have et := enterOk Try.func39 (by kernel_rfl) (by kernel_rfl)
    unfold EnterOk at et
    go_enter Try.func15, Try.ntmps15
    go_wp2_with fail
    refine namedC fun w1 H1 => ?_
    have hb1 : Below w.heap.size w w1 := by rw [H1.out]; (repeat first | exact Below.refl _ _ | assumption | refine Below.drew ?_ | refine Below.alloc ?_ (by first | exact Nat.le_refl _ | (simp; done) | omega | (simp; omega)) _ | refine Below.setCell ?_ (by first | exact Nat.le_refl _ | (simp; done) | omega | (simp; omega)) _)
    have B1 := Lib.hid (show Blk w1 w.heap.size 24 #[.slice none 0 0] by rw [H1.out]; exact Blk.new _ _ _)
    have hsz : w.heap.size < w1.heap.size := B1.out.lt
    clear H1
    refine (validWord_any s true _ (by unfold maxLen; omega) Ho.out).mono ?_
    rintro e w2 ⟨rfl, hb2⟩
    by_cases h0 : s.size = 0
    · have e0 := size0 h0
      have hG := Lib.hid (show hvG s = [] by unfold hvG; rw [if_pos h0])
      have hK := Lib.hid (show (gOk ([] : List Fac)).isSome = true from rfl)
      clear h0
      go_wp2_with fail
      refine namedC fun w3 H3 => ?_
      have hb3 : Below w2.heap.size w2 w3 := by rw [H3.out]; (repeat first | exact Below.refl _ _ | assumption | refine Below.drew ?_ | refine Below.alloc ?_ (by first | exact Nat.le_refl _ | (simp; done) | omega | (simp; omega)) _ | refine Below.setCell ?_ (by first | exact Nat.le_refl _ | (simp; done) | omega | (simp; omega)) _)
      have BG3 := Lib.hid (B1.out.next (hb2.trans (hb3.mono hb2.size)))
      clear H3
      have b3 : Below w.heap.size w w3 := (hb1.trans (hb2.mono (by omega))).trans (hb3.mono (by have := hb2.size; omega))
      refine (orLimit_yes none 0 0 [] w3 (by omega) Rd.none_ (by simp) hK.out).mono ?_
      rintro e w5 ⟨rfl, hb5⟩
      have B7 := Lib.hid (BG3.out.next hb5)
      have b7 := b3.trans (hb5.mono b3.size)
      have d5 := B7.out.cell 0
      have f5 := B7.out.frozen
      have l5 := B7.out.lt
      have B8 := B7.out.set_ 0 (.slice none 0 0)
      have x6 : (w5.setCell ⟨w.heap.size, 0, none⟩ (.slice none 0 0)).cell? ⟨w.heap.size, 0, none⟩ = some (.slice none 0 0) := by rw [B8.cell 0]; rfl
      have b6 := b7.setCell (p := ⟨w.heap.size, 0, none⟩) (Nat.le_refl _) (.slice none 0 0)
      clear B8
      go_wp2_with fail
      rw [hG.out]
      exact bodyPost_ret (v := .tuple #[.agg #[.slice none 0 0], .int .i64 0]) (by simp [results, Try.results15, go_sem, x6]) rfl ⟨none, 0, rfl, World.ownsRow_nil _ _ _ _, b6⟩
    · have e0 := size1 h0
      have e1 := size1' h0
      have hw : WordOk s := ⟨by omega, hs2, by
        have h := Ho.out
        unfold okW at h
        simp only [Bool.and_eq_true, List.all_eq_true] at h
        exact h.2⟩
      have hG := show hvG s = (hv s ⟨[], []⟩).rs by unfold hvG; rw [if_neg h0]
      have HW := Lib.hid hw
      have HG := Lib.hid hG
      clear h0 hw hG
      go_wp2_with fail
      refine namedC fun w3 H3 => ?_
      have l1 := B1.out.lt
      have z2 := hb2.size
      have hb3 : Below w2.heap.size w2 w3 := by rw [H3.out]; (repeat first | exact Below.refl _ _ | assumption | refine Below.drew ?_ | refine Below.alloc ?_ (by first | exact Nat.le_refl _ | (simp; done) | omega | (simp; omega)) _ | refine Below.setCell ?_ (by first | exact Nat.le_refl _ | (simp; done) | omega | (simp; omega)) _)
      have D5 : HvD5 w1 w2.heap.size (w2.heap.size + 1) (w2.heap.size + 1 + 1) (w2.heap.size + 1 + 1 + 1) := ⟨by omega, by omega, by omega, by omega, by omega, by omega, by omega, by omega⟩
      have P3 : HvW w1 w3 w2.heap.size (w2.heap.size + 1) (w2.heap.size + 1 + 1) (w2.heap.size + 1 + 1 + 1) none 0 0 [] [] := by
        refine ⟨World.ownsRow_nil _ _ _ _, ?_, ?_, ?_, ?_, hb2.trans (hb3.mono z2)⟩
        · rw [H3.out]; simpa using ((Blk.new (w2.alloc (.map #[] 0)) 24 #[.slice none 0 0]).alloc _).alloc _
        · rw [H3.out]; simpa using (Blk.new ((w2.alloc (.map #[] 0)).alloc (.cells #[.slice none 0 0] 24)) 65 #[.map (some w2.heap.size)]).alloc _
        · rw [H3.out]; simpa [meetV] using Blk.new (((w2.alloc (.map #[] 0)).alloc (.cells #[.slice none 0 0] 24)).alloc (.cells #[.map (some w2.heap.size)] 65)) 66 #[meetV (w2.heap.size + 1) (w2.heap.size + 1 + 1) (w2.heap.size + 1 + 1 + 1)]
        · rw [H3.out]; exact (((MapIs.made w2 strK).alloc _).alloc _).alloc _
      have HP3 := Lib.hid P3
      have HD5 := Lib.hid D5
      clear H3 P3 D5
      refine (meet_any w1 w2.heap.size (w2.heap.size + 1) (w2.heap.size + 1 + 1) (w2.heap.size + 1 + 1 + 1) HD5.out s.size s ⟨[], []⟩ none 0 0 [] w3 rfl HW.out hvI_nil rfl (by omega) (fun x => rfl) HP3.out).mono ?_
      rintro e w4 ⟨A4, c4, mm4, rfl, p4, _, _⟩
      rw [← HG.out] at p4
      have P4 := Lib.hid p4
      clear p4 HP3 HD5
      obtain ⟨N, hN⟩ : ∃ N, (hvG s).length = N := ⟨_, rfl⟩
      have HNl := Lib.hid hN
      rw [hN] at P4
      have hN4 : N ≤ 4000 := by have := HGk.out.2.1; omega
      clear hN
      have gc := P4.out.g.cell 0
      have gl := P4.out.g.lt
      go_wp2_with fail
      refine (orLimit_any A4 N c4 (hvG s) w4 (by omega) (Rd.of_own (fun x _ => fac_len x) HNl.out P4.out.q) (wf_size' HGk.out.1)).mono ?_
      rintro e w5 ⟨rfl, hb5⟩
      have b4 : Below w.heap.size w w4 := hb1.trans (P4.out.e.mono (by omega))
      have R5 := orLim_ret (w0 := w) HNl.out (P4.out.q.mono (by omega)) b4 hb5
      obtain ⟨A7, c7, h5, own5, _⟩ := R5
      injection h5 with h5
      have B7 := Lib.hid ((B1.out.next P4.out.e).next hb5)
      have b7 := b4.trans (hb5.mono b4.size)
      have O7 := Lib.hid own5
      clear own5 gc gl P4 HNl
      rw [h5]
      clear h5
      generalize limF (hvG s) = T at *
      generalize limC (hvG s) = TC at *
      have d5 := B7.out.cell 0
      have f5 := B7.out.frozen
      have l5 := B7.out.lt
      have B8 := B7.out.set_ 0 (.slice A7 T.length c7)
      have x6 : (w5.setCell ⟨w.heap.size, 0, none⟩ (.slice A7 T.length c7)).cell? ⟨w.heap.size, 0, none⟩ = some (.slice A7 T.length c7) := by rw [B8.cell 0]; rfl
      have b6 := b7.setCell (p := ⟨w.heap.size, 0, none⟩) (Nat.le_refl _) (.slice A7 T.length c7)
      have O8 := Lib.hid (own_kept' O7.out B7.out (by decide) (.slice A7 T.length c7) (i := 0))
      clear B8
      go_wp2_with fail
      exact bodyPost_ret (v := .tuple #[.agg #[.slice A7 T.length c7], .int .i64 TC]) (by simp [results, Try.results15, go_sem, x6]) rfl ⟨A7, c7, rfl, O8.out, b6⟩
end Go.Proofs.Ytikhjoianbndhaa
