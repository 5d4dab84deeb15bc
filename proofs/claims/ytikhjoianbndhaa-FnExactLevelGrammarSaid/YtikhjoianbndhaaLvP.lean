/-
  LevelGrammar in the program.
-/
import Derived.Test.YtikhjoianbndhaaLvL
import Derived.Test.YtikhjoianbndhaaLvN
import Derived.Test.YtikhjoianbndhaaTrim
namespace Go.Proofs.Ytikhjoianbndhaa
open Go.RowKit

theorem own_keep {W W' : World} {base : Nat} {e : TypeId} {sz n : Nat} {v : Value} {xs : List Value} (h : W.ownsRow base e sz v n xs) (hk : ∀ y, v.ownBlock = some y → W'.heap[y]? = W.heap[y]?) : W'.ownsRow base e sz v n xs := by
  refine ⟨h.1, ?_⟩
  rcases h.2 with hn | ⟨g, cap, cur, rfl, hg, hh, r⟩
  · exact .inl hn
  · exact .inr ⟨g, cap, cur, rfl, hg, (hk g rfl).trans hh, r⟩
theorem Rd.takeL {α : Type} {w : World} {B n sz : Nat} {A : Option Addr} {enc : α → List Value} {xs : List α} (h : Rd w B A n sz enc xs) {k : Nat} (hk : k ≤ n) : Rd w B A k sz enc (xs.take k) := by
  refine ⟨by rw [List.length_take, h.1]; omega, fun hp => ?_⟩
  obtain ⟨b, o, hA, hb, hc⟩ := h.2 (by omega)
  refine ⟨b, o, hA, hb, fun i x hx j v hv => hc i x ?_ j v hv⟩
  rw [List.getElem?_take] at hx
  split at hx
  · exact hx
  · cases hx
/-- 'LevelGrammar' under way -/
structure LgW (w W : World) (X M : Nat) (A : Option Addr) (n c : Nat) (B : Option Addr) (d : Nat) (s : LvS) (mm : List (Fac × Value)) (V : Option Addr) (k cv : Nat) (pl : List Int) : Prop where
  p : LvP w W X M A n c B d s mm
  v : W.ownsRow w.heap.size 2 1 (.slice V k cv) k (pl.flatMap intE)
  o : Blk W (w.heap.size + 1) 24 #[.slice none 0 0]
  ne : ∀ y, (Value.slice V k cv).ownBlock = some y → some y ≠ (Value.slice B n d).ownBlock
  hX : w.heap.size + 1 < X ∧ w.heap.size + 1 < M
section
variable {w W W' : World} {X M : Nat} {A : Option Addr} {n c : Nat} {B : Option Addr} {d : Nat} {s : LvS} {mm : List (Fac × Value)} {V : Option Addr} {k cv : Nat} {pl : List Int}
theorem LgW.next (h : LgW w W X M A n c B d s mm V k cv pl) (hb : Below W.heap.size W W') : LgW w W' X M A n c B d s mm V k cv pl := ⟨h.p.next hb, own_next h.v hb, h.o.next hb, h.ne, h.hX⟩
theorem LgW.alloc (h : LgW w W X M A n c B d s mm V k cv pl) (o : Obj) : LgW w (W.alloc o) X M A n c B d s mm V k cv pl := h.next ((Below.refl _ _).alloc (Nat.le_refl _) _)
theorem LgW.drew (h : LgW w W X M A n c B d s mm V k cv pl) : LgW w W.drew X M A n c B d s mm V k cv pl := h.next (Below.refl _ _).drew
theorem LgW.call {A' : Option Addr} {n' c' : Nat} {B' : Option Addr} {d' : Nat} {s' : LvS} {mm' : List (Fac × Value)} (h : LgW w W X M A n c B d s mm V k cv pl) (hp : LvP w W' X M A' n' c' B' d' s' mm') (hf : LvF W W' X M (.slice A n c) (.slice A' n' c') (.slice B n d) (.slice B' n' d')) :
    LgW w W' X M A' n' c' B' d' s' mm' V k cv pl := by
  refine ⟨hp, own_keep h.v fun y hy => ?_, hf.blk h.o (by have := h.hX.1; omega) (by have := h.hX.2; omega) (own_blk_ne h.p.g.q h.o (by decide)) (own_blk_ne h.p.g.k h.o (by decide)), fun y hy => ?_, h.hX⟩
  · refine hf.kept y (h.v.lt y hy).2 ?_ ?_ ?_ (h.ne y hy)
    · intro e; subst e; exact own_blk_ne h.v h.p.g.x h.p.g.t2 hy.symm
    · intro e; subst e; exact h.p.m.ne_own h.v hy.symm
    · intro e
      rcases own_ne h.v h.p.g.q (by decide) with q | q
      · rw [hy] at q; cases q
      · exact q (hy.trans e)
  · rcases hf.row' with q | q
    · rw [q]; exact h.ne y hy
    · intro e; have := q y e.symm; have := (h.v.lt y hy).2; omega
theorem LgW.push {V8 : Option Addr} {k8 c8 : Nat} {pl' : List Int} (h : LgW w W X M A n c B d s mm V k cv pl) (hq : W'.ownsRow w.heap.size 2 1 (.slice V8 k8 c8) k8 (pl'.flatMap intE)) (hg : W.grownBy W' (Value.slice V k cv).ownBlock)
    (hat : (Value.slice V8 k8 c8).ownBlock = (Value.slice V k cv).ownBlock ∨ (Value.slice V8 k8 c8).ownBlock = some W.heap.size) : LgW w W' X M A n c B d s mm V8 k8 c8 pl' := by
  have hk : (Value.slice B n d).ownBlock = none ∨ (Value.slice B n d).ownBlock ≠ (Value.slice V k cv).ownBlock := by
    cases hy : (Value.slice V k cv).ownBlock with
    | none =>
      cases hz : (Value.slice B n d).ownBlock with
      | none => exact .inl rfl
      | some z => exact .inr (by simp)
    | some y => exact .inr fun e => h.ne y hy (e.symm)
  refine ⟨⟨⟨h.p.g.q.kept hg (own_ne h.p.g.q h.v (by decide)), h.p.g.k.kept hg hk, h.p.g.x.grown hg (own_blk_ne h.v h.p.g.x h.p.g.t2), h.p.g.e.grown hg h.p.g.e.size (own_ge h.v), h.p.g.hx, h.p.g.t1, h.p.g.t2⟩, h.p.m.grown hg (h.p.m.ne_own h.v), h.p.k, h.p.hm, h.p.hr, h.p.hd⟩, hq,
    h.o.grown hg (own_blk_ne h.v h.o (by decide)), fun y hy e => ?_, h.hX⟩
  rcases hat with q | q
  · rw [q] at hy; exact h.ne y hy e
  · rw [q] at hy; injection hy with hy; have := (h.p.g.k.lt y e.symm).2; omega
end
set_option maxHeartbeats 8000000 in
set_option maxRecDepth 100000 in
theorem implLev_any (A : Option Addr) (n c : Nat) (rs : List Fac) (w : World) (hn : n ≤ 1048576) (hr : Rd w w.heap.size A n 3 Fac.cells rs) (hok : ∀ f ∈ rs, f.l.size ≤ maxLen) :
    Calls Try.prog 19 #[.agg #[.slice A n c]] w (RetGC w (levF rs) (levC rs)) := by
  have hB0 := Lib.hid (Blk.new w 24 #[.slice A n c])
  have HR := Lib.hid hr; clear hr
  have HO := Lib.hid hok; clear hok
  have HT := Lib.hid (show levF rs = (if (gOk rs).isSome then lvT rs else []) from rfl); have HC := Lib.hid (show levC rs = (if (gOk rs).isSome then lvE rs else 1) from rfl)
  generalize levF rs = T at *
  generalize levC rs = C at *
  have hmm := @run_makeMap Try.prog
  go_enter Try.func19, Try.ntmps19
  go_wp2_with fail
  refine namedC fun w3 H3 => ?_
  have hb3 : Below w.heap.size w w3 := by rw [H3.out]; (repeat first | exact Below.refl _ _ | assumption | refine Below.drew ?_ | refine Below.alloc ?_ (by first | exact Nat.le_refl _ | (simp; done) | omega | (simp; omega)) _ | refine Below.setCell ?_ (by first | exact Nat.le_refl _ | (simp; done) | omega | (simp; omega)) _)
  have BG := Lib.hid (show Blk w3 w.heap.size 24 #[.slice A n c] by rw [H3.out]; exact hB0.out.alloc _)
  have BC := Lib.hid (show Blk w3 (w.heap.size + 1) 24 #[.slice none 0 0] by rw [H3.out]; simpa using Blk.new (w.alloc (.cells #[.slice A n c] 24)) 24 #[.slice none 0 0])
  clear H3
  rcases hg : (gOk rs).isSome with _ | _
  · have Hg := Lib.hid hg
    have eT := HT.out; have eC := HC.out
    rw [hg] at eT eC
    obtain rfl : T = [] := eT
    obtain rfl : C = 1 := eC
    clear hg HT HC hmm
    refine (validG_any A n c rs w3 (by omega) (HR.out.next hb3) HO.out false Hg.out).mono ?_
    rintro e1 w4 ⟨rfl, hb4⟩
    have b4 := hb3.trans (hb4.mono hb3.size)
    have BC4 := BC.out.next hb4
    have d4 := BC4.cell 0
    have f4 := BC4.frozen
    have l4 := BC4.lt
    have B5 := BC4.set_ 0 (.slice none 0 0)
    have x5 : (w4.setCell ⟨w.heap.size + 1, 0, none⟩ (.slice none 0 0)).cell? ⟨w.heap.size + 1, 0, none⟩ = some (.slice none 0 0) := by rw [B5.cell 0]; rfl
    have b5 := b4.setCell (p := ⟨w.heap.size + 1, 0, none⟩) (by simp) (.slice none 0 0)
    clear B5 BC4
    go_wp2_with fail
    refine bodyPost_ret (v := .tuple #[.agg #[.slice none 0 0], .int .i64 1]) (by simp [results, Try.results19, go_sem, x5]) rfl ⟨none, 0, rfl, World.ownsRow_nil _ _ _ _, b5⟩
  · have Hg := Lib.hid hg
    have eT := HT.out; have eC := HC.out
    rw [hg] at eT eC
    obtain rfl : T = lvT rs := eT
    obtain rfl : C = lvE rs := eC
    clear hg HT HC
    obtain ⟨ls, hls⟩ := Option.isSome_iff_exists.1 Hg.out
    have hwf := Lib.hid (wf_of (gOk_lens hls).1)
    have hn4 : n ≤ 400 := by have := (gOk_lens hls).2.1; have := HR.out.len; omega
    clear hls
    refine (validG_any A n c rs w3 (by omega) (HR.out.next hb3) HO.out true Hg.out).mono ?_
    rintro e1 w4 ⟨rfl, hb4⟩
    have b4 := hb3.trans (hb4.mono hb3.size)
    have BC4 := Lib.hid (BC.out.next hb4)
    have BG4 := Lib.hid (BG.out.next hb4)
    have g4 := BG4.out.cell 0
    have k4 := BG4.out.lt
    have g5 := (((BG4.out.alloc (.map #[] 0)).alloc (.cells #[.slice none 0 0, .slice none 0 0, .map (some w4.heap.size)] 83)).alloc (.cells #[] 2)).cell 0
    have k5 := (((BG4.out.alloc (.map #[] 0)).alloc (.cells #[.slice none 0 0, .slice none 0 0, .map (some w4.heap.size)] 83)).alloc (.cells #[] 2)).lt
    go_wp2_with fail
    refine named fun w5 H5 => ?_
    have P5 := Lib.hid (show LgW w w5 (w4.heap.size + 1) w4.heap.size none 0 0 none 0 lv0.1 [] (some ⟨w4.heap.size + 1 + 1, 0, none⟩) 0 0 lv0.2 by
      rw [H5.out]
      refine ⟨⟨⟨World.ownsRow_nil _ _ _ _, World.ownsRow_nil _ _ _ _, ?_, b4.trans (Below.mono (by (repeat first | exact Below.refl _ _ | assumption | refine Below.drew ?_ | refine Below.alloc ?_ (by first | exact Nat.le_refl _ | (simp; done) | omega | (simp; omega)) _ | refine Below.setCell ?_ (by first | exact Nat.le_refl _ | (simp; done) | omega | (simp; omega)) _)) b4.size), by have := b4.size; omega, by decide, by decide⟩, ?_, fun f => by simp [mget, midx, lv0], ⟨b4.size, by omega⟩, rfl, rfl⟩, ?_, ?_, fun y hy => by simp [Value.ownBlock], ?_⟩
      · have h := (Blk.new (w4.alloc (.map #[] 0)) 83 #[.slice none 0 0, .slice none 0 0, .map (some w4.heap.size)]).alloc (.cells #[] 2)
        simpa using h
      · have h := MapIs.made w4 Fac.val
        exact (h.alloc _).alloc _
      · have h := World.ownsRow_made (base := w.heap.size) (e := 2) (size := 1) ((w4.alloc (.map #[] 0)).alloc (.cells #[.slice none 0 0, .slice none 0 0, .map (some w4.heap.size)] 83)) #[] 0 (by have := b4.size; simp; omega) (by unfold maxLen; omega) rfl
        simpa [lv0] using h
      · exact ((BC4.out.alloc _).alloc _).alloc _
      · have := BC4.out.lt; omega)
    clear H5 hmm hb3 hb4 b4 BG BC BC4 BG4 g4 k4 g5 k5 hB0
    generalize hX : w4.heap.size + 1 = X at *
    generalize hM : w4.heap.size = M at *
    have HX := Lib.hid hX; have HM := Lib.hid hM
    clear hX hM
    go_loopw [5, 19] (fun v_ i_ w' => ∃ (k : Nat) (V : Option Addr) (cv : Nat) (A1 : Option Addr) (n1 c1 : Nat) (B1 : Option Addr) (d1 : Nat) (mm : List (Fac × Value)) (st : LvS × List Int), v_ = .slice V k cv ∧ i_ = .int .i64 k ∧ k ≤ n ∧ Hid (LgW w w' X M A1 n1 c1 B1 d1 st.1 mm V k cv st.2) ∧ Hid (LvJ rs k st)) (fun _ i_ _ => n - (intOf i_).toNat)
    case atStart => exact ⟨0, _, 0, _, _, _, _, _, _, lv0, rfl, rfl, by omega, P5, Lib.hid (LvJ.first rs)⟩
    case round =>
      obtain ⟨k, V, cv, A1, n1, c1, B1, d1, mm, st, rfl, rfl, hk, P1, J⟩ := hrel
      clear P5
      have hn1 : n1 ≤ 400 := by have h1 := J.out.len; rw [P1.out.p.hr] at h1; exact h1
      have hnl := Lib.hid HR.out.len
      by_cases hlt : k < n
      · obtain ⟨b0, o0, x, rfl, hB, gx, e0, e1, e2⟩ := (HR.out.below P1.out.p.g.e).fac hlt
        have hBr : b0 < wr.heap.size := by have := P1.out.p.g.e.size; omega
        have Gx := Lib.hid gx
        have i0 : (0 : Int) ≤ (k : Int) := by omega
        have i1 : (k : Int) < (n : Int) := by omega
        obtain ⟨pb, hpb⟩ : ∃ pb, isP x = pb := ⟨_, rfl⟩
        have Hpb := Lib.hid hpb
        clear gx hpb
        go_upto_if 24 with (go_at_call 49; refine (isPair_any x pb _ Hpb.out).mono ?_; rintro e w1 ⟨rfl, hb1⟩)
        have P2 := Lib.hid ((P1.out.alloc (.cells #[.string x.l, .int .i64 x.a, .int .i64 x.b] 44)).next hb1)
        have BX2 := Lib.hid ((Blk.new wr 44 #[.string x.l, .int .i64 x.a, .int .i64 x.b]).next hb1)
        have zb := hb1.size
        have zb' : wr.heap.size < w1.heap.size := BX2.out.lt
        clear hb1 P1 e0 e1 e2 zb
        go_cut [5] (fun v_ wx => ∃ (V2 : Option Addr) (cv2 : Nat) (A2 : Option Addr) (n2 c2 : Nat) (B2 : Option Addr) (d2 : Nat) (mm2 : List (Fac × Value)) (t : LvS × Int) (g : Nat), v_ = .slice V2 (k + 1) cv2 ∧ Hid (LgW w wx X M A2 n2 c2 B2 d2 t.1 mm2 V2 (k + 1) cv2 (st.2 ++ [t.2])) ∧ Hid (lvOne st x = (t.1, st.2 ++ [t.2])) ∧ Hid (LvO st.1 t g))
        case first =>
          have kmx : k + 1 ≤ maxLen := by unfold maxLen; omega
          have zk8 : (k + 1) * 8 ≤ 140737488355328 := by omega
          rcases hwf.out k x Gx.out with ⟨h0, ha0, ha1, hb0, hb1⟩ | ⟨cc, hcc, hxl, hxa, hxb⟩
          · obtain rfl : true = pb := by rw [← Hpb.out]; simp [isP, h0]
            have Ho := Lib.hid (J.out.pair ha0 ha1 hb0 hb1)
            have ia := J.out.at_ ha0 ha1
            have ib := J.out.at_ hb0 hb1
            have He := Lib.hid (show lvOne st x = ((lvLevel 800 st.1 (st.2.getD x.a.toNat 0) (st.2.getD x.b.toNat 0)).1, st.2 ++ [(lvLevel 800 st.1 (st.2.getD x.a.toNat 0) (st.2.getD x.b.toNat 0)).2]) by unfold lvOne; rw [if_pos h0])
            obtain ⟨gv, cpv, hvv, hgv0, hgv1⟩ := P2.out.v.form (by omega)
            obtain rfl : V = some ⟨gv, 0, none⟩ := by injection hvv
            have va := own_at (sz := 1) (enc := intE) (fun _ _ => rfl) P2.out.v J.out.pl 0 x.a.toNat (by omega) 0 (by omega)
            have vb := own_at (sz := 1) (enc := intE) (fun _ _ => rfl) P2.out.v J.out.pl 0 x.b.toNat (by omega) 0 (by omega)
            rw [Nat.mul_one, Nat.add_zero] at va vb
            obtain ⟨a, hae⟩ : ∃ a : Nat, x.a = a := ⟨x.a.toNat, by omega⟩
            obtain ⟨b, hbe⟩ : ∃ b : Nat, x.b = b := ⟨x.b.toNat, by omega⟩
            rw [hae] at va ia Ho He ha1
            rw [hbe] at vb ib Ho He hb1
            rw [Int.toNat_natCast] at va ia vb ib
            rw [Int.toNat_natCast, Int.toNat_natCast] at Ho He
            obtain ⟨l, hle⟩ : ∃ l : Nat, st.2.getD a 0 = l := ⟨(st.2.getD a 0).toNat, by have := ia.1; omega⟩
            obtain ⟨r, hre⟩ : ∃ r : Nat, st.2.getD b 0 = r := ⟨(st.2.getD b 0).toNat, by have := ib.1; omega⟩
            rw [hle] at ia Ho He
            rw [hre] at ib Ho He
            have va' : w1.cell? ⟨gv, a, none⟩ = some (.int .i64 (l : Int)) := by rw [← hle]; exact va
            have vb' : w1.cell? ⟨gv, b, none⟩ = some (.int .i64 (r : Int)) := by rw [← hre]; exact vb
            have CALL := Lib.hid (fun W4 (h4 : LvP w W4 X M A1 n1 c1 B1 d1 st.1 mm) => lvLevel_any w X M 800 l r st.1 A1 n1 c1 B1 d1 mm W4 J.out.i (by omega) ia ib (by have h1 := ia.2; have h2 := ib.2; have h3 := J.out.len; omega) h4)
            generalize lvLevel 800 st.1 (l : Int) (r : Int) = t at *
            have Hae := Lib.hid hae; have Hbe := Lib.hid hbe
            have d0 := BX2.out.cell 0
            have d1_ : w1.cell? ⟨wr.heap.size, 1, none⟩ = some (.int .i64 (a : Int)) := by rw [← hae]; exact BX2.out.cell 1
            have d2_ : w1.cell? ⟨wr.heap.size, 2, none⟩ = some (.int .i64 (b : Int)) := by rw [← hbe]; exact BX2.out.cell 2
            have a0 : (0 : Int) ≤ (a : Int) := by omega
            have b0' : (0 : Int) ≤ (b : Int) := by omega
            have a1 : (a : Int) < (k : Int) := ha1
            have b1' : (b : Int) < (k : Int) := hb1
            clear hvv va vb hae hbe hle hre ia ib h0 ha0 hb0 ha1 hb1
            go_wp2_with fail
            refine wp_region_N (fun _ => True) [] (by kernel_rfl) ?_
            refine wpAnyN_take (i := 0) (v := ?_) rfl (by kernel_rfl) (fun _ _ _ h => h) (by rfl) (fun W hW => ?_) trivial ?_
            rotate_left
            · go_simp
              try with_reducible rfl
            try simp only [List.getElem_toArray, List.getElem_cons_zero, List.getElem_cons_succ, Act.put, List.setIfInBounds_toArray, List.set_cons_zero, List.set_cons_succ]
            refine wpAnyN_T _ (wpAny_of_N (S := fun W' => W'.cell? ⟨gv, a, none⟩ = some (.int .i64 (l : Int)) ∧ W'.cell? ⟨gv, b, none⟩ = some (.int .i64 (r : Int)) ∧ W'.cell? ⟨wr.heap.size, 0, none⟩ = some (.string x.l) ∧ W'.cell? ⟨wr.heap.size, 1, none⟩ = some (.int .i64 a) ∧ W'.cell? ⟨wr.heap.size, 2, none⟩ = some (.int .i64 b)) (N := [12, 13, 14, 15]) _ _ _ _ ?_)
            have P3 := Lib.hid P2.out.drew
            have hS0 : w1.drew.cell? ⟨gv, a, none⟩ = some (.int .i64 (l : Int)) ∧ w1.drew.cell? ⟨gv, b, none⟩ = some (.int .i64 (r : Int)) ∧ w1.drew.cell? ⟨wr.heap.size, 0, none⟩ = some (.string x.l) ∧ w1.drew.cell? ⟨wr.heap.size, 1, none⟩ = some (.int .i64 a) ∧ w1.drew.cell? ⟨wr.heap.size, 2, none⟩ = some (.int .i64 b) := ⟨va', vb', d0, d1_, d2_⟩
            generalize w1.drew = wd at *
            clear va' vb' d0 d1_ d2_ P2 BX2
            refine wpAnyN_take (i := 1) (v := ?_) rfl (by kernel_rfl) (fun _ _ _ h => h) (by rfl) (fun W hW => ?_) hS0 ?_
            rotate_left
            · obtain ⟨z0, z1, z2, z3, z4⟩ := hW
              go_simp
              try with_reducible rfl
            try simp only [List.getElem_toArray, List.getElem_cons_zero, List.getElem_cons_succ, Act.put, List.setIfInBounds_toArray, List.set_cons_zero, List.set_cons_succ]
            refine wpAnyN_take (i := 2) (v := ?_) rfl (by kernel_rfl) (fun _ _ _ h => h) (by rfl) (fun W hW => ?_) hS0 ?_
            rotate_left
            · obtain ⟨z0, z1, z2, z3, z4⟩ := hW
              go_simp
              try with_reducible rfl
            try simp only [List.getElem_toArray, List.getElem_cons_zero, List.getElem_cons_succ, Act.put, List.setIfInBounds_toArray, List.set_cons_zero, List.set_cons_succ]
            refine wpAnyN_take (i := 3) (v := ?_) rfl (by kernel_rfl) (fun _ _ _ h => h) (by rfl) (fun W hW => ?_) hS0 ?_
            rotate_left
            · obtain ⟨z0, z1, z2, z3, z4⟩ := hW
              go_simp
              try with_reducible rfl
            try simp only [List.getElem_toArray, List.getElem_cons_zero, List.getElem_cons_succ, Act.put, List.setIfInBounds_toArray, List.set_cons_zero, List.set_cons_succ]
            refine wpAnyN_take (i := 4) (v := ?_) rfl (by kernel_rfl) (fun _ _ _ h => h) (by rfl) (fun W hW => ?_) hS0 ?_
            rotate_left
            · obtain ⟨z0, z1, z2, z3, z4⟩ := hW
              go_simp
              try with_reducible rfl
            try simp only [List.getElem_toArray, List.getElem_cons_zero, List.getElem_cons_succ, Act.put, List.setIfInBounds_toArray, List.set_cons_zero, List.set_cons_succ]
            refine wpAnyN_take (i := 5) (v := ?_) rfl (by kernel_rfl) (fun _ _ _ h => h) (by rfl) (fun W hW => ?_) hS0 ?_
            rotate_left
            · obtain ⟨z0, z1, z2, z3, z4⟩ := hW
              go_simp
              try with_reducible rfl
            try simp only [List.getElem_toArray, List.getElem_cons_zero, List.getElem_cons_succ, Act.put, List.setIfInBounds_toArray, List.set_cons_zero, List.set_cons_succ]
            refine wpAnyN_take (i := 6) (v := ?_) rfl (by kernel_rfl) (fun _ _ _ h => h) (by rfl) (fun W hW => ?_) hS0 ?_
            rotate_left
            · obtain ⟨z0, z1, z2, z3, z4⟩ := hW
              go_simp
              try with_reducible rfl
            try simp only [List.getElem_toArray, List.getElem_cons_zero, List.getElem_cons_succ, Act.put, List.setIfInBounds_toArray, List.set_cons_zero, List.set_cons_succ]
            refine wpAnyN_take (i := 7) (v := ?_) rfl (by kernel_rfl) (fun _ _ _ h => h) (by rfl) (fun W hW => ?_) hS0 ?_
            rotate_left
            · obtain ⟨z0, z1, z2, z3, z4⟩ := hW
              go_simp
              try with_reducible rfl
            try simp only [List.getElem_toArray, List.getElem_cons_zero, List.getElem_cons_succ, Act.put, List.setIfInBounds_toArray, List.set_cons_zero, List.set_cons_succ]
            refine wpAnyN_take (i := 8) (v := ?_) rfl (by kernel_rfl) (fun _ _ _ h => h) (by rfl) (fun W hW => ?_) hS0 ?_
            rotate_left
            · obtain ⟨z0, z1, z2, z3, z4⟩ := hW
              go_simp
              try with_reducible rfl
            try simp only [List.getElem_toArray, List.getElem_cons_zero, List.getElem_cons_succ, Act.put, List.setIfInBounds_toArray, List.set_cons_zero, List.set_cons_succ]
            refine wpAnyN_take (i := 9) (v := ?_) rfl (by kernel_rfl) (fun _ _ _ h => h) (by rfl) (fun W hW => ?_) hS0 ?_
            rotate_left
            · obtain ⟨z0, z1, z2, z3, z4⟩ := hW
              go_simp
              try with_reducible rfl
            try simp only [List.getElem_toArray, List.getElem_cons_zero, List.getElem_cons_succ, Act.put, List.setIfInBounds_toArray, List.set_cons_zero, List.set_cons_succ]
            refine wpAnyN_take (i := 10) (v := ?_) rfl (by kernel_rfl) (fun _ _ _ h => h) (by rfl) (fun W hW => ?_) hS0 ?_
            rotate_left
            · obtain ⟨z0, z1, z2, z3, z4⟩ := hW
              go_simp
              try with_reducible rfl
            try simp only [List.getElem_toArray, List.getElem_cons_zero, List.getElem_cons_succ, Act.put, List.setIfInBounds_toArray, List.set_cons_zero, List.set_cons_succ]
            refine wpAnyN_take (i := 11) (v := ?_) rfl (by kernel_rfl) (fun _ _ _ h => h) (by rfl) (fun W hW => ?_) hS0 ?_
            rotate_left
            · obtain ⟨z0, z1, z2, z3, z4⟩ := hW
              go_simp
              try with_reducible rfl
            try simp only [List.getElem_toArray, List.getElem_cons_zero, List.getElem_cons_succ, Act.put, List.setIfInBounds_toArray, List.set_cons_zero, List.set_cons_succ]
            clear hS0
            refine wpAnyN_next (i := 12) rfl (by kernel_rfl) (fun K hK => ?_)
            go_simp
            go_wp2_with (go_at_call 50; refine (CALL.out _ P3.out.p).mono ?_; rintro e w4 ⟨rfl, A2, n2, c2, B2, d2, mm2, p4, f4⟩)
            have P4 := Lib.hid (P3.out.call p4 f4)
            have P5 := Lib.hid (P4.out.alloc (.cells #[.int .i64 t.2] 2))
            clear p4 f4
            refine hK.out _ _ (fun h => absurd h (by decide)) ?_
            clear hK K
            try simp only [List.getElem_toArray, List.getElem_cons_zero, List.getElem_cons_succ, Act.put, List.setIfInBounds_toArray, List.set_cons_zero, List.set_cons_succ]
            refine wpAnyN_next (i := 13) rfl (by kernel_rfl) (fun K hK => ?_)
            go_simp
            refine hK.out _ _ (fun h => absurd h (by decide)) ?_
            clear hK K
            try simp only [List.getElem_toArray, List.getElem_cons_zero, List.getElem_cons_succ, Act.put, List.setIfInBounds_toArray, List.set_cons_zero, List.set_cons_succ]
            refine wpAnyN_next (i := 14) rfl (by kernel_rfl) (fun K hK => ?_)
            refine step_pushL (by rfl) _ _ _ (by rfl) w.heap.size 2 1 8 elem_int intE (some ⟨gv, 0, none⟩) k cv st.2 (by rfl) P5.out.v _ t.2 #[.int .i64 t.2] 2 (0, 0) (by rfl) (heap_alloc_new _ _) rfl rfl (by simp [intE, Value.oneCell']) (by omega) zk8 kmx P5.out.p.g.e.size ?_
            intro A9 c9 w9 own9 hg9 hat9
            have P9 := Lib.hid (P5.out.push own9 hg9 hat9)
            refine hK.out _ _ (fun h => absurd h (by decide)) ?_
            clear hK K
            try simp only [List.getElem_toArray, List.getElem_cons_zero, List.getElem_cons_succ, Act.put, List.setIfInBounds_toArray, List.set_cons_zero, List.set_cons_succ]
            refine wpAnyN_next (i := 15) rfl (by kernel_rfl) (fun K hK => ?_)
            go_simp
            refine hK.out _ _ (fun h => absurd h (by decide)) ?_
            clear hK K
            try simp only [List.getElem_toArray, List.getElem_cons_zero, List.getElem_cons_succ, Act.put, List.setIfInBounds_toArray, List.set_cons_zero, List.set_cons_succ]
            refine wpAnyN_done (by kernel_rfl) ?_ _
            go_wp2_with fail
            go_meet
            exact ⟨A9, c9, A2, n2, c2, B2, d2, mm2, t, _, rfl, P9, He, Ho⟩
          · obtain rfl : false = pb := by rw [← Hpb.out]; unfold isP; rw [hxl]; rfl
            have Ho := Lib.hid (lvRule_do J.out.i (show RuleOk st.1 x from .inr ⟨cc, hcc, hxl, hxa, hxb⟩))
            have He := Lib.hid (show lvOne st x = ((lvRule st.1 x).1, st.2 ++ [(lvRule st.1 x).2]) by unfold lvOne; rw [if_neg (by rw [hxl]; show ¬ (1 : Nat) = 0; omega)])
            have CALL := Lib.hid (fun W4 (h4 : LvP w W4 X M A1 n1 c1 B1 d1 st.1 mm) => lvRule_any w X M x st.1 A1 n1 c1 B1 d1 mm W4 J.out.i (by omega) (.inr ⟨cc, hcc, hxl, hxa, hxb⟩) h4)
            generalize lvRule st.1 x = t at *
            obtain ⟨d0, d1_, d2_⟩ := BX2.out.three
            clear hxl hxa hxb hcc
            go_wp2_with fail
            refine (CALL.out w1 P2.out.p).mono ?_
            rintro e w4 ⟨rfl, A2, n2, c2, B2, d2, mm2, p4, f4⟩
            have P4 := Lib.hid (P2.out.call p4 f4)
            have P5 := Lib.hid (P4.out.alloc (.cells #[.int .i64 t.2] 2))
            clear p4 f4
            go_wp2_with
              (at_builtin
               refine wpList_push (w0 := w) rfl _ _ _ rfl w.heap.size 2 1 8 elem_int intE V k cv st.2 rfl P5.out.v w4.heap.size t.2 #[.int .i64 t.2] 2 (0, 0) rfl (heap_alloc_new _ _) rfl rfl (by simp [intE, Value.oneCell']) (by omega) (by omega) (by unfold maxLen; omega) rfl P5.out.p.g.e ?_
               intro A9 c9 w9 own9 hg9 hat9 hb9
               have P9 := Lib.hid (P5.out.push own9 hg9 hat9))
            go_meet
            exact ⟨A9, c9, A2, n2, c2, B2, d2, mm2, t, _, rfl, P9, He, Ho⟩
        case rest =>
          obtain ⟨V2, cv2, A2, n2, c2, B2, d2, mm2, t, g, rfl, P3, He, Ho⟩ := hcut
          have x0 := P3.out.p.g.x.cell 0
          have xl := P3.out.p.g.x.lt
          have hl2 : (lvOne st x).1.rs.length = n2 := by rw [He.out]; exact P3.out.p.hr
          by_cases h400 : 400 < n2
          · have hF := J.out.full Gx.out (by rw [hl2]; exact h400)
            have eT := Lib.hid (show lvT rs = [] by unfold lvT; rw [hF])
            have eC := Lib.hid (show lvE rs = 3 by unfold lvE; rw [hF]; rfl)
            have o0_ := P3.out.o.cell 0
            have of_ := P3.out.o.frozen
            have ol_ := P3.out.o.lt
            have B5 := P3.out.o.set_ 0 (.slice none 0 0)
            have x5 : (wc.setCell ⟨w.heap.size + 1, 0, none⟩ (.slice none 0 0)).cell? ⟨w.heap.size + 1, 0, none⟩ = some (.slice none 0 0) := by rw [B5.cell 0]; rfl
            have b5 := P3.out.p.g.e.setCell (p := ⟨w.heap.size + 1, 0, none⟩) (by simp) (.slice none 0 0)
            have n2c : (400 : Int) < (n2 : Int) := by omega
            clear B5 hF hl2 h400
            go_wp2_with fail
            refine bodyPost_ret (v := .tuple #[.agg #[.slice none 0 0], .int .i64 3]) (by simp [results, Try.results19, go_sem, x5]) rfl ?_
            rw [eT.out, eC.out]
            exact ⟨none, 0, rfl, World.ownsRow_nil _ _ _ _, b5⟩
          · have J2 := Lib.hid (J.out.one Gx.out (by omega) He.out Ho.out)
            have J3 : Hid (LvJ rs (k + 1) (t.1, st.2 ++ [t.2])) := by rw [← He.out]; exact J2
            have n2c : (n2 : Int) ≤ 400 := by omega
            clear hl2 h400 J2
            go_wp2_with fail
            go_roundw
            case rel => exact ⟨k + 1, V2, cv2, A2, n2, c2, B2, d2, mm2, (t.1, st.2 ++ [t.2]), rfl, by go_num, by omega, P3, J3⟩
            case measure => simp [intOf]; omega
      · have hall := Lib.hid (J.out.all (show rs.length ≤ k by have := HR.out.len; omega))
        have hlen := Lib.hid (lvAll_len hall.out)
        have hn1l : st.1.rs.length = n1 := P1.out.p.hr
        have Hn1l := Lib.hid hn1l
        have i1 : ¬ (k : Int) < (n : Int) := by omega
        have RS := Lib.hid (Rd.of_own (enc := intE) (fun x _ => rfl) J.out.pl P1.out.v)
        have LC := Lib.hid (fun W (h : Below wr.heap.size wr W) => last_any V k cv st.2 W (by omega) (RS.out.next h))
        have o0_ := P1.out.o.cell 0
        have of_ := P1.out.o.frozen
        have ol_ := P1.out.o.lt
        have x0 := P1.out.p.g.x.cell 0
        have xl := P1.out.p.g.x.lt
        have eC := Lib.hid (show lvE rs = 0 by unfold lvE; rw [hall.out]; rfl)
        by_cases hk0 : k = 0
        · have eT := Lib.hid (show lvT rs = [] by
            unfold lvT
            rw [hall.out]
            simp only
            rw [if_pos (List.eq_nil_of_length_eq_zero (by rw [J.out.pl]; exact hk0))])
          have kz : (k : Int) = 0 := by omega
          have B5 := P1.out.o.set_ 0 (.slice none 0 0)
          have x5 : (wr.setCell ⟨w.heap.size + 1, 0, none⟩ (.slice none 0 0)).cell? ⟨w.heap.size + 1, 0, none⟩ = some (.slice none 0 0) := by rw [B5.cell 0]; rfl
          have b5 := P1.out.p.g.e.setCell (p := ⟨w.heap.size + 1, 0, none⟩) (by simp) (.slice none 0 0)
          clear B5 hn1l x0 xl
          go_wp2_with fail
          refine bodyPost_ret (v := .tuple #[.agg #[.slice none 0 0], .int .i64 0]) (by simp [results, Try.results19, go_sem, x5]) rfl ?_
          rw [eT.out, eC.out]
          exact ⟨none, 0, rfl, World.ownsRow_nil _ _ _ _, b5⟩
        · have hsl : Idx st.1 (lastI st.2) := by
            unfold lastI
            have hj : st.2.length - 1 < st.2.length := by rw [J.out.pl]; omega
            rw [List.getD_eq_getElem?_getD, List.getElem?_eq_getElem hj]
            exact J.out.ix _ _ (List.getElem?_eq_getElem hj)
          have Hsl := Lib.hid hsl
          have eT0 := Lib.hid (show lvT rs = trimL (st.1.rs.take ((lastI st.2).toNat + 1)) by
            unfold lvT
            rw [hall.out]
            simp only
            rw [if_neg (by intro e; have := J.out.pl; rw [e] at this; exact hk0 this.symm), show (lastI st.2 + 1).toNat = (lastI st.2).toNat + 1 by have := Hsl.out.1; omega])
          have hl0 : 0 ≤ lastI st.2 := hsl.1
          have hl1 : lastI st.2 < (n1 : Int) := by rw [← hn1l]; exact hsl.2
          have hwt := Lib.hid (wf_take J.out.i.wf ((lastI st.2).toNat + 1))
          have RO := Lib.hid (Rd.of_own (fun x _ => fac_len x) Hn1l.out P1.out.p.g.q)
          have kz : ¬ (k : Int) = 0 := by omega
          generalize lastI st.2 = sl at *
          have u1 : IntKind.i64.wrap (sl + 1) = sl + 1 := IntWalk.i64_in _ (by omega)
          have j0 : (0 : Int) ≤ sl + 1 := by omega
          have hc1 : n1 ≤ c1 := by
            have h2 := P1.out.p.g.q.2
            rcases h2 with ⟨hnil, hz⟩ | ⟨g2, cap2, cur2, hv2, _, _, h3, _⟩
            · omega
            · injection hv2 with _ _ h4; omega
          have j1 : sl + 1 ≤ (c1 : Int) := by omega
          have jn : (sl + 1).toNat = sl.toNat + 1 := by omega
          have RT := Lib.hid (Rd.takeL RO.out (k := sl.toNat + 1) (by omega))
          have TC := Lib.hid (fun W (h : Below wr.heap.size wr W) => trimmed_any A1 (sl.toNat + 1) c1 (st.1.rs.take (sl.toNat + 1)) W (by omega) (RT.out.next h) hwt.out)
          unfold RetG at TC
          generalize trimL (st.1.rs.take (sl.toNat + 1)) = T at *
          obtain ⟨L, hL⟩ : ∃ L, T.length = L := ⟨_, rfl⟩
          rw [hL] at TC
          have HL := Lib.hid hL
          have PD := Lib.hid P1.out.drew
          clear hL hl0 hl1 hsl hn1l J Hsl hwt RO RT RS Hn1l hlen hall
          go_wp2_with fail
          go_region_law
            (first
              | (go_simp
                 go_wp2_with (go_at_call 53; refine (TC.out _ b5x.out).mono ?_; rintro e w6' ⟨A5, c5, rfl, own5, hb6'⟩)
                 have P7 := Lib.hid (P6.out.next hb6')
                 have O6 := Lib.hid (own5.mono P6.out.p.g.e.size)
                 have o7 := P7.out.o.cell 0
                 have f7 := P7.out.o.frozen
                 have l7 := P7.out.o.lt
                 clear own5)
              | (go_simp
                 go_wp2_with (go_at_call 52; refine (LC.out _ (Below.refl _ _).drew).mono ?_; rintro e w5' ⟨rfl, hb5'⟩)
                 have b5x := Lib.hid (show Below wr.heap.size wr w5' from (Below.refl _ _).drew.trans hb5')
                 have P6 := Lib.hid (P1.out.next b5x.out)
                 have x0' := P6.out.p.g.x.cell 0
                 have xl' := P6.out.p.g.x.lt))
          all_goals
            have B5 := P7.out.o.set_ 0 (.slice A5 L c5)
            have x5 : (w6'.setCell ⟨w.heap.size + 1, 0, none⟩ (.slice A5 L c5)).cell? ⟨w.heap.size + 1, 0, none⟩ = some (.slice A5 L c5) := by rw [B5.cell 0]; rfl
            have b5' := P7.out.p.g.e.setCell (p := ⟨w.heap.size + 1, 0, none⟩) (by simp) (.slice A5 L c5)
            have O8 := Lib.hid (own_kept' (i := 0) O6.out P7.out.o (by decide) (.slice A5 L c5))
            clear B5
            go_wp2_with fail
            exact bodyPost_ret (v := .tuple #[.agg #[.slice A5 L c5], .int .i64 0]) (by simp [results, Try.results19, go_sem, x5]) rfl ⟨A5, c5, by rw [eT0.out, eC.out]; simp [HL.out], by rw [eT0.out]; simpa [HL.out] using O8.out, b5'⟩
end Go.Proofs.Ytikhjoianbndhaa
