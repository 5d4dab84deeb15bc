/-
  Texts of this claim, merged: Wev Pieces EqW Wd LeM IdxR TrimS Trim.
-/
import Derived.Test.YtajfjgemfnfakaaP2
import Derived.Deep.RegionHeld3
import Derived.Laws.EntriesVeiled
import Derived.Deep.RegionWith
import Derived.Deep.DeepCutAuto
import Derived.Deep.CutBlock


/-
  A grammar with the prints of its words, in the program.
-/
namespace Go.Proofs.Ytajfjgemfnfakaa
open Go.RowKit

def prE (p : PN) : List Value := [.int .u64 p.1, .int .u64 p.2]
theorem elem_print : Elem Try.prog 103 107 2 16 := Elem.mk' (z := .agg #[.int .u64 0, .int .u64 0]) Try.underlying103 (by kernel_rfl) rfl
theorem one_print (p : PN) : ∀ u ∈ prE p, u.oneCell' = true := by simp [prE, Value.oneCell']
/-- the weave under way: what its box holds, and where the rows lie -/
structure WvX (w W : World) (B : Nat) (A : Option Addr) (n c : Nat) (L : Option Addr) (cl : Nat) (ls : List Int) (vM vS : Value) (M : Option Addr) (km cm : Nat) (S : Option Addr) (ks cs : Nat) (ms ss : List PN) : Prop where
  b : Blk W B 105 #[.slice A n c, .slice L n cl, vM, vS]
  m : W.ownsRow w.heap.size 107 2 (.slice M km cm) km (ms.flatMap prE)
  s : W.ownsRow w.heap.size 107 2 (.slice S ks cs) ks (ss.flatMap prE)
  ne : ∀ q, (Value.slice M km cm).ownBlock = some q → (Value.slice S ks cs).ownBlock ≠ some q
  l : W.ownsRow w.heap.size 2 1 (.slice L n cl) n (ls.flatMap intE)
  e : Below w.heap.size w W
  hB : w.heap.size ≤ B
abbrev WvW (w W : World) (B : Nat) (A : Option Addr) (n c : Nat) (L : Option Addr) (cl : Nat) (ls : List Int) (M : Option Addr) (k cm : Nat) (S : Option Addr) (cs : Nat) (ms ss : List PN) : Prop := WvX w W B A n c L cl ls (.slice M k cm) (.slice S k cs) M k cm S k cs ms ss
section
variable {w W W' : World} {B : Nat} {A : Option Addr} {n c : Nat} {L : Option Addr} {cl : Nat} {ls : List Int} {vM vS : Value} {M : Option Addr} {km cm : Nat} {S : Option Addr} {ks cs : Nat} {ms ss : List PN}
theorem WvX.next (h : WvX w W B A n c L cl ls vM vS M km cm S ks cs ms ss) (hb : Below W.heap.size W W') : WvX w W' B A n c L cl ls vM vS M km cm S ks cs ms ss :=
  ⟨h.b.next hb, own_next h.m hb, own_next h.s hb, h.ne, own_next h.l hb, h.e.trans (hb.mono h.e.size), h.hB⟩
theorem WvX.alloc (h : WvX w W B A n c L cl ls vM vS M km cm S ks cs ms ss) (o : Obj) : WvX w (W.alloc o) B A n c L cl ls vM vS M km cm S ks cs ms ss := h.next ((Below.refl _ _).alloc (Nat.le_refl _) _)
theorem WvX.far (h : WvX w W B A n c L cl ls vM vS M km cm S ks cs ms ss) {Y i : Nat} {u : Value} {cs0 : Array Value} (hY : Blk W Y 107 cs0) (hw : w.heap.size ≤ Y) (h1 : some Y ≠ (Value.slice M km cm).ownBlock) (h2 : some Y ≠ (Value.slice S ks cs).ownBlock) :
    WvX w (W.setCell ⟨Y, i, none⟩ u) B A n c L cl ls vM vS M km cm S ks cs ms ss := by
  have hg := gb_set W Y i u
  refine ⟨h.b.far ?_ u, h.m.kept hg (.inr fun e => h1 e.symm), h.s.kept hg (.inr fun e => h2 e.symm), h.ne, h.l.kept hg (.inr fun e => own_blk_ne h.l hY (by decide) e.symm), h.e.setCell hw u, h.hB⟩
  intro e
  have e' : B = Y := e
  subst e'
  have := h.b
  unfold Blk at this hY
  rw [hY] at this
  injection this with this
  injection this with _ this
  exact absurd this (by decide)
theorem WvX.pushM {M8 : Option Addr} {k8 c8 : Nat} {ms' : List PN} (h : WvX w W B A n c L cl ls vM vS M km cm S ks cs ms ss) (ho : W'.ownsRow w.heap.size 107 2 (.slice M8 k8 c8) k8 (ms'.flatMap prE)) (hg : W.grownBy W' (Value.slice M km cm).ownBlock)
    (hat : (Value.slice M8 k8 c8).ownBlock = (Value.slice M km cm).ownBlock ∨ (Value.slice M8 k8 c8).ownBlock = some W.heap.size) : WvX w W' B A n c L cl ls vM vS M8 k8 c8 S ks cs ms' ss := by
  refine ⟨h.b.grown hg (own_blk_ne h.m h.b (by decide)), ho, h.s.kept hg ?_, fun q hq => ?_, h.l.kept hg (own_ne h.l h.m (by decide)), h.e.grown hg h.e.size (own_ge h.m), h.hB⟩
  · cases hv : (Value.slice M km cm).ownBlock with
    | none =>
      cases hw : (Value.slice S ks cs).ownBlock with
      | none => exact .inl rfl
      | some q => exact .inr (by intro e; cases e)
    | some q => exact .inr (h.ne q hv)
  · rcases hat with e | e
    · exact h.ne q (e.symm.trans hq)
    · intro h2
      have := (h.s.lt q h2).2
      rw [hq] at e
      injection e with e
      omega
theorem WvX.pushS {S8 : Option Addr} {k8 c8 : Nat} {ss' : List PN} (h : WvX w W B A n c L cl ls vM vS M km cm S ks cs ms ss) (ho : W'.ownsRow w.heap.size 107 2 (.slice S8 k8 c8) k8 (ss'.flatMap prE)) (hg : W.grownBy W' (Value.slice S ks cs).ownBlock)
    (hat : (Value.slice S8 k8 c8).ownBlock = (Value.slice S ks cs).ownBlock ∨ (Value.slice S8 k8 c8).ownBlock = some W.heap.size) : WvX w W' B A n c L cl ls vM vS M km cm S8 k8 c8 ms ss' := by
  refine ⟨h.b.grown hg (own_blk_ne h.s h.b (by decide)), h.m.kept hg ?_, ho, fun q hq h2 => ?_, h.l.kept hg (own_ne h.l h.s (by decide)), h.e.grown hg h.e.size (own_ge h.s), h.hB⟩
  · cases hv : (Value.slice S ks cs).ownBlock with
    | none =>
      cases hw : (Value.slice M km cm).ownBlock with
      | none => exact .inl rfl
      | some q => exact .inr (by intro e; cases e)
    | some q => exact .inr (fun e => h.ne q e hv)
  · rcases hat with e | e
    · exact h.ne q hq (e.symm.trans h2)
    · have := (h.m.lt q hq).2
      rw [h2] at e
      injection e with e
      omega
theorem WvX.setM (h : WvX w W B A n c L cl ls vM vS M km cm S ks cs ms ss) (v : Value) : WvX w (W.setCell ⟨B, 2, none⟩ v) B A n c L cl ls v vS M km cm S ks cs ms ss :=
  ⟨h.b.set_ 2 v, own_kept' h.m h.b (by decide) v, own_kept' h.s h.b (by decide) v, h.ne, own_kept' h.l h.b (by decide) v, h.e.setCell h.hB v, h.hB⟩
theorem WvX.setS (h : WvX w W B A n c L cl ls vM vS M km cm S ks cs ms ss) (v : Value) : WvX w (W.setCell ⟨B, 3, none⟩ v) B A n c L cl ls vM v M km cm S ks cs ms ss :=
  ⟨h.b.set_ 3 v, own_kept' h.m h.b (by decide) v, own_kept' h.s h.b (by decide) v, h.ne, own_kept' h.l h.b (by decide) v, h.e.setCell h.hB v, h.hB⟩
end
/-- a print of a row -/
theorem rd_print {W : World} {base k cM : Nat} {M : Option Addr} {ms : List PN} (h : W.ownsRow base 107 2 (.slice M k cM) k (ms.flatMap prE)) (hl : ms.length = k) {a : Nat} (ha : a < k) :
    ∃ gm, M = some ⟨gm, 0, none⟩ ∧ gm < W.heap.size ∧ ∀ p : PN, ms[a]? = some p → W.cell? ⟨gm, a * 2, none⟩ = some (.int .u64 p.1) ∧ W.cell? ⟨gm, a * 2 + 1, none⟩ = some (.int .u64 p.2) := by
  have hR := Rd.of_own (enc := prE) (fun _ _ => rfl) hl h
  obtain ⟨g, cp, hv, _, hg⟩ := h.form (by omega)
  injection hv with e1 e2 e3
  subst e1
  obtain ⟨b, o, hA, hb, x, hx, hc⟩ := hR.at_ ha
  injection hA with hA
  injection hA with h1 h2 h3
  subst h1; subst h2
  refine ⟨g, rfl, hb, fun p hp => ?_⟩
  obtain rfl : x = p := Option.some.inj (hx.symm.trans hp)
  have c0 := hc 0 _ rfl
  have c1 := hc 1 _ rfl
  exact ⟨by simpa using c0, by simpa using c1⟩
set_option maxHeartbeats 16000000 in
set_option maxRecDepth 100000 in
theorem newWeave_any (A : Option Addr) (n c : Nat) (rs : List Fac) (ls : List Int) (w : World) (hn : n ≤ 400) (hr : Rd w w.heap.size A n 3 Fac.cells rs) (hls : gOk rs = some ls) :
    Calls Try.prog 60 #[.agg #[.slice A n c]] w (fun e w' => ∃ B L cl M cm S cs, e = .returned (.tuple #[.pointer (some ⟨B, 0, none⟩), .bool true]) ∧ WvW w w' B A n c L cl ls M n cm S cs ((wvAll rs).map (·.1)) ((wvAll rs).map (·.2))) := by
  have hl := hr.len
  have HR := Lib.hid hr
  obtain ⟨hgl, h400, hlen⟩ := gOk_lens hls
  have HWF := Lib.hid (wf_of hgl)
  have Hok := Lib.hid (show ∀ f ∈ rs, f.l.size ≤ maxLen from fun f hf => by
    obtain ⟨k, hk, rfl⟩ := List.getElem_of_mem hf
    rcases HWF.out k _ (List.getElem?_eq_getElem hk) with q | ⟨ch, _, q, _⟩
    · unfold maxLen; omega
    · rw [q]; show (1 : Nat) ≤ maxLen; unfold maxLen; omega)
  have HLS := Lib.hid hls
  clear hr hgl
  go_enter Try.func60, Try.ntmps60
  go_wp2_with fail
  refine namedC fun w1 H1 => ?_
  have hb1 : Below w.heap.size w w1 := by rw [H1.out]; (repeat first | exact Below.refl _ _ | assumption | refine Below.drew ?_ | refine Below.alloc ?_ (by first | exact Nat.le_refl _ | (simp; done) | omega | (simp; omega)) _ | refine Below.setCell ?_ (by first | exact Nat.le_refl _ | (simp; done) | omega | (simp; omega)) _)
  have BG := Lib.hid (show Blk w1 w.heap.size 26 #[.slice A n c] by rw [H1.out]; exact Blk.new w _ _)
  clear H1
  refine (lengths_any A n c rs w1 (by omega) (HR.out.next hb1) Hok.out).mono ?_
  rintro e w2 ⟨hb2, ⟨ls', L, cl, hgl, rfl, own2⟩ | ⟨hgl, _⟩⟩
  case inr => exfalso; have := HLS.out; rw [hgl] at this; cases this
  obtain rfl : ls = ls' := by have := HLS.out; rw [hgl] at this; exact (Option.some.inj this).symm
  have hlsn : ls.length = n := by omega
  rw [hlsn] at own2 ⊢
  have b2 := hb1.trans (hb2.mono hb1.size)
  have BG2 := Lib.hid (BG.out.next hb2)
  have g0' : w2.cell? ⟨w.heap.size, 0, none⟩ = some (.slice A n c) := BG2.out.cell 0
  have g1 : (w2.alloc (.cells #[.slice A n c, .slice L n cl, .slice none 0 0, .slice none 0 0] 105)).cell? ⟨w.heap.size, 0, none⟩ = some (.slice A n c) := (BG2.out.alloc _).cell 0
  have P3 := Lib.hid (show WvW w (w2.alloc (.cells #[.slice A n c, .slice L n cl, .slice none 0 0, .slice none 0 0] 105)) w2.heap.size A n c L cl ls none 0 0 none 0 [] [] from
    ⟨Blk.new w2 _ _, World.ownsRow_nil _ _ _ _, World.ownsRow_nil _ _ _ _, fun q h => (by cases h), (own2.mono hb1.size).alloc _, b2.alloc b2.size _, b2.size⟩)
  go_wp2_with fail
  generalize (w2.alloc (.cells #[.slice A n c, .slice L n cl, .slice none 0 0, .slice none 0 0] 105)) = w3 at *
  generalize w2.heap.size = B at *
  clear g1 g0' BG2 own2 b2 hb2 hb1 BG
  go_loopw [26] (fun i_ w' => ∃ (k : Nat) (M : Option Addr) (cm : Nat) (S : Option Addr) (cs : Nat), i_ = .int .i64 k ∧ k ≤ n ∧ Hid (WvW w w' B A n c L cl ls M k cm S cs ((outs wvD wvF wvG rs k).map (·.1)) ((outs wvD wvF wvG rs k).map (·.2)))) (fun i_ _ => n - (intOf i_).toNat)
  case atStart => exact ⟨0, none, 0, none, 0, rfl, by omega, by simpa [outs, foldG] using P3⟩
  case round =>
    obtain ⟨k, M, cm, S, cs, rfl, hk, P⟩ := hrel
    clear P3
    by_cases hlt : k < n
    · obtain ⟨gb, go_, x, rfl, hgB, gx, c0, c1, c2⟩ := (HR.out.next P.out.e).fac hlt
      have k0 : (0 : Int) ≤ (k : Int) := by omega
      have k1 : (k : Int) < (n : Int) := by omega
      have hst := Lib.hid (outs_step wvD wvF wvG gx)
      have hol := Lib.hid (outs_len wvD wvF wvG rs k (by omega))
      have Gx := Lib.hid gx
      clear gx
      go_wp2_with fail
      refine (bases_any _).mono ?_
      rintro e w4 ⟨rfl, hb4⟩
      have P4 := Lib.hid ((P.out.alloc (.cells #[.string x.l, .int .i64 x.a, .int .i64 x.b] 59)).next hb4)
      have BX := Lib.hid ((Blk.new wr 59 #[.string x.l, .int .i64 x.a, .int .i64 x.b]).next hb4)
      have hBo := Lib.hid baseP_ok
      have hF := Lib.hid (fun i => show wvF i = ((97 + i, 97 + i), baseP) from rfl)
      unfold prV
      generalize baseP = bp at *
      clear hb4
      have x0 : w4.cell? ⟨wr.heap.size, 0, none⟩ = some (.string x.l) := BX.out.cell 0
      have x1 : w4.cell? ⟨wr.heap.size, 1, none⟩ = some (.int .i64 x.a) := BX.out.cell 1
      have x2 : w4.cell? ⟨wr.heap.size, 2, none⟩ = some (.int .i64 x.b) := BX.out.cell 2
      have hX := BX.out.lt
      have hwX : w.heap.size ≤ w4.heap.size := P4.out.e.size
      generalize wr.heap.size = X at *
      go_wp2_with fail
      have P5 := Lib.hid ((P4.out.alloc (.cells #[.int .u64 0, .int .u64 0] 107)).alloc (.cells #[.int .u64 bp.1, .int .u64 bp.2] 107))
      have X5 := Lib.hid ((BX.out.alloc (.cells #[.int .u64 0, .int .u64 0] 107)).alloc (.cells #[.int .u64 bp.1, .int .u64 bp.2] 107))
      have Y5 := Lib.hid ((Blk.new w4 107 #[.int .u64 0, .int .u64 0]).alloc (.cells #[.int .u64 bp.1, .int .u64 bp.2] 107))
      have Z5 := Lib.hid (show Blk ((w4.alloc (.cells #[.int .u64 0, .int .u64 0] 107)).alloc (.cells #[.int .u64 bp.1, .int .u64 bp.2] 107)) (w4.heap.size + 1) 107 #[.int .u64 bp.1, .int .u64 bp.2] by
        have h := Blk.new (w4.alloc (.cells #[.int .u64 0, .int .u64 0] 107)) 107 #[.int .u64 bp.1, .int .u64 bp.2]
        simpa using h)
      have nYM : Hid (some w4.heap.size ≠ (Value.slice M k cm).ownBlock ∧ some w4.heap.size ≠ (Value.slice S k cs).ownBlock) := Lib.hid ⟨fun e => by have := (P4.out.m.lt _ e.symm).2; omega, fun e => by have := (P4.out.s.lt _ e.symm).2; omega⟩
      have nZM : Hid (some (w4.heap.size + 1) ≠ (Value.slice M k cm).ownBlock ∧ some (w4.heap.size + 1) ≠ (Value.slice S k cs).ownBlock) := Lib.hid ⟨fun e => by have := (P4.out.m.lt _ e.symm).2; omega, fun e => by have := (P4.out.s.lt _ e.symm).2; omega⟩
      generalize ((w4.alloc (.cells #[.int .u64 0, .int .u64 0] 107)).alloc (.cells #[.int .u64 bp.1, .int .u64 bp.2] 107)) = w5 at *
      generalize hZ : w4.heap.size + 1 = Z at *
      generalize w4.heap.size = Y at *
      clear P4 BX x0 x1 x2 P
      obtain ⟨pb, hpb⟩ : ∃ pb, isP x = pb := ⟨_, rfl⟩
      refine (isPair_any x pb _ hpb).mono ?_
      rintro e w6 ⟨rfl, hb6⟩
      have P6 := Lib.hid (P5.out.next hb6)
      have X6 := Lib.hid (X5.out.next hb6)
      have Y6 := Lib.hid (Y5.out.next hb6)
      have Z6 := Lib.hid (Z5.out.next hb6)
      clear P5 X5 Y5 Z5 hb6
      obtain ⟨v, hv⟩ : ∃ v, fStep wvD wvF wvG (outs wvD wvF wvG rs k) x = v := ⟨_, rfl⟩
      have hst2 := hst.out
      rw [hv] at hst2
      have HST := Lib.hid hst2
      clear hst hst2
      by_cases h0 : x.l.size = 0
      case' pos =>
        obtain rfl : pb = true := by rw [← hpb]; simp [isP, h0]
        rcases HWF.out k x Gx.out with ⟨_, a0, a1, b0, b1⟩ | ⟨ch, _, q, _⟩
        rotate_left
        · rw [q] at h0; exact absurd h0 (show ¬ (1 : Nat) = 0 by omega)
        obtain ⟨a, hae⟩ : ∃ a : Nat, x.a = a := ⟨x.a.toNat, by omega⟩
        obtain ⟨b, hbe⟩ : ∃ b : Nat, x.b = b := ⟨x.b.toNat, by omega⟩
        have hak : a < k := by omega
        have hbk : b < k := by omega
        have hml : ((outs wvD wvF wvG rs k).map (·.1)).length = k := by rw [List.length_map]; exact hol.out
        have hsl : ((outs wvD wvF wvG rs k).map (·.2)).length = k := by rw [List.length_map]; exact hol.out
        obtain ⟨gm, rfl, hgm, hma⟩ := rd_print P6.out.m hml hak
        obtain ⟨gm', hgm', _, hmb⟩ := rd_print P6.out.m hml hbk
        obtain rfl : gm = gm' := by injection hgm' with h; injection h
        obtain ⟨gs, rfl, hgs, hsa⟩ := rd_print P6.out.s hsl hak
        obtain ⟨gs', hgs', _, hsb⟩ := rd_print P6.out.s hsl hbk
        obtain rfl : gs = gs' := by injection hgs' with h; injection h
        obtain ⟨va, hva⟩ : ∃ va, (outs wvD wvF wvG rs k)[a]? = some va := ⟨_, List.getElem?_eq_getElem (by rw [hol.out]; exact hak)⟩
        obtain ⟨vb, hvb⟩ : ∃ vb, (outs wvD wvF wvG rs k)[b]? = some vb := ⟨_, List.getElem?_eq_getElem (by rw [hol.out]; exact hbk)⟩
        have ca := hma va.1 (by rw [List.getElem?_map, hva]; rfl)
        have cb := hmb vb.1 (by rw [List.getElem?_map, hvb]; rfl)
        have da := hsa va.2 (by rw [List.getElem?_map, hva]; rfl)
        have db := hsb vb.2 (by rw [List.getElem?_map, hvb]; rfl)
        have oka : PqOk va := by
          have := wv_ok HWF.out a (by omega)
          unfold wvAll at this
          rw [← outs_full wvD wvF wvG hak (by omega), List.getD_eq_getElem?_getD, hva] at this
          exact this
        have okb : PqOk vb := by
          have := wv_ok HWF.out b (by omega)
          unfold wvAll at this
          rw [← outs_full wvD wvF wvG hbk (by omega), List.getD_eq_getElem?_getD, hvb] at this
          exact this
        have hvv : v = (plusP (timesP va.1 vb.2) vb.1, timesP va.2 vb.2) := by
          rw [← hv]
          unfold fStep
          rw [if_pos h0, hae, hbe, Int.toNat_natCast, Int.toNat_natCast, List.getD_eq_getElem?_getD, List.getD_eq_getElem?_getD, hva, hvb]; rfl
        obtain ⟨ma, sa⟩ := va
        obtain ⟨mb, sb⟩ := vb
        have CT1 := Lib.hid (fun W => show Calls Try.prog 69 #[.agg #[.int .u64 ma.1, .int .u64 ma.2], .agg #[.int .u64 sb.1, .int .u64 sb.2]] W (Ret (.agg #[.int .u64 (timesP ma sb).1, .int .u64 (timesP ma sb).2]) W) from times_any ma sb W oka.1 okb.2)
        have CT2 := Lib.hid (fun W => show Calls Try.prog 70 #[.agg #[.int .u64 (timesP ma sb).1, .int .u64 (timesP ma sb).2], .agg #[.int .u64 mb.1, .int .u64 mb.2]] W (Ret (.agg #[.int .u64 v.1.1, .int .u64 v.1.2]) W) from by
          have := plus_any (timesP ma sb) mb W (timesP_ok _ _) okb.1
          rw [hvv]; exact this)
        have CT3 := Lib.hid (fun W => show Calls Try.prog 69 #[.agg #[.int .u64 sa.1, .int .u64 sa.2], .agg #[.int .u64 sb.1, .int .u64 sb.2]] W (Ret (.agg #[.int .u64 v.2.1, .int .u64 v.2.2]) W) from by
          have := times_any sa sb W oka.2 okb.2
          rw [hvv]; exact this)
        have HS := Lib.hid (fun (W : World) (h : Below w6.heap.size w6 W) => show W.cell? ⟨B, 2, none⟩ = some (.slice (some ⟨gm, 0, none⟩) k cm) ∧ W.cell? ⟨B, 3, none⟩ = some (.slice (some ⟨gs, 0, none⟩) k cs) ∧ W.cell? ⟨X, 1, none⟩ = some (.int .i64 a) ∧ W.cell? ⟨X, 2, none⟩ = some (.int .i64 b) ∧ W.cell? ⟨gm, a * 2, none⟩ = some (.int .u64 ma.1) ∧ W.cell? ⟨gm, a * 2 + 1, none⟩ = some (.int .u64 ma.2) ∧ W.cell? ⟨gm, b * 2, none⟩ = some (.int .u64 mb.1) ∧ W.cell? ⟨gm, b * 2 + 1, none⟩ = some (.int .u64 mb.2) ∧ W.cell? ⟨gs, a * 2, none⟩ = some (.int .u64 sa.1) ∧ W.cell? ⟨gs, a * 2 + 1, none⟩ = some (.int .u64 sa.2) ∧ W.cell? ⟨gs, b * 2, none⟩ = some (.int .u64 sb.1) ∧ W.cell? ⟨gs, b * 2 + 1, none⟩ = some (.int .u64 sb.2) from
          ⟨by rw [(P6.out.b.next h).cell 2]; rfl, by rw [(P6.out.b.next h).cell 3]; rfl, by rw [(X6.out.next h).cell 1, ← hae]; rfl, by rw [(X6.out.next h).cell 2, ← hbe]; rfl,
           (h.cell (p := ⟨gm, _, none⟩) hgm).trans ca.1, (h.cell (p := ⟨gm, _, none⟩) hgm).trans ca.2, (h.cell (p := ⟨gm, _, none⟩) hgm).trans cb.1, (h.cell (p := ⟨gm, _, none⟩) hgm).trans cb.2,
           (h.cell (p := ⟨gs, _, none⟩) hgs).trans da.1, (h.cell (p := ⟨gs, _, none⟩) hgs).trans da.2, (h.cell (p := ⟨gs, _, none⟩) hgs).trans db.1, (h.cell (p := ⟨gs, _, none⟩) hgs).trans db.2⟩)
        have i0 : (0 : Int) ≤ (a : Int) := by omega
        have i1 : (a : Int) < (k : Int) := by omega
        have i2 : (0 : Int) ≤ (b : Int) := by omega
        have i3 : (b : Int) < (k : Int) := by omega
        clear ca cb da db hma hmb hsa hsb hva hvb oka okb hvv hgm' hgs' hml hsl hae hbe h0 a0 a1 b0 b1 hpb
        generalize (timesP ma sb) = tp at *
        go_wp2_with fail
        refine wp_region_N (fun W => W.cell? ⟨B, 2, none⟩ = some (.slice (some ⟨gm, 0, none⟩) k cm) ∧ W.cell? ⟨B, 3, none⟩ = some (.slice (some ⟨gs, 0, none⟩) k cs) ∧ W.cell? ⟨X, 1, none⟩ = some (.int .i64 a) ∧ W.cell? ⟨X, 2, none⟩ = some (.int .i64 b) ∧ W.cell? ⟨gm, a * 2, none⟩ = some (.int .u64 ma.1) ∧ W.cell? ⟨gm, a * 2 + 1, none⟩ = some (.int .u64 ma.2) ∧ W.cell? ⟨gm, b * 2, none⟩ = some (.int .u64 mb.1) ∧ W.cell? ⟨gm, b * 2 + 1, none⟩ = some (.int .u64 mb.2) ∧ W.cell? ⟨gs, a * 2, none⟩ = some (.int .u64 sa.1) ∧ W.cell? ⟨gs, a * 2 + 1, none⟩ = some (.int .u64 sa.2) ∧ W.cell? ⟨gs, b * 2, none⟩ = some (.int .u64 sb.1) ∧ W.cell? ⟨gs, b * 2 + 1, none⟩ = some (.int .u64 sb.2)) [26] (by kernel_rfl) ?_
        have c6 : Below w6.heap.size w6 w6.drew := (Below.refl _ _).drew
        have hS0 := HS.out _ c6

        refine wpAnyN_take (i := 0) (v := ?_) rfl (by kernel_rfl) (fun _ _ _ h => h) (by rfl) (fun W hW => ?_) hS0 ?_
        rotate_left
        · obtain ⟨z0, z1, z2, z3, z4, z5, z6, z7, z8, z9, z10, z11⟩ := hW
          go_simp
          try with_reducible rfl
        try simp only [List.getElem_toArray, List.getElem_cons_zero, List.getElem_cons_succ, Act.put, List.setIfInBounds_toArray, List.set_cons_zero, List.set_cons_succ]
        refine wpAnyN_take (i := 1) (v := ?_) rfl (by kernel_rfl) (fun _ _ _ h => h) (by rfl) (fun W hW => ?_) hS0 ?_
        rotate_left
        · obtain ⟨z0, z1, z2, z3, z4, z5, z6, z7, z8, z9, z10, z11⟩ := hW
          go_simp
          try with_reducible rfl
        try simp only [List.getElem_toArray, List.getElem_cons_zero, List.getElem_cons_succ, Act.put, List.setIfInBounds_toArray, List.set_cons_zero, List.set_cons_succ]
        refine wpAnyN_take (i := 2) (v := ?_) rfl (by kernel_rfl) (fun _ _ _ h => h) (by rfl) (fun W hW => ?_) hS0 ?_
        rotate_left
        · obtain ⟨z0, z1, z2, z3, z4, z5, z6, z7, z8, z9, z10, z11⟩ := hW
          go_simp
          try with_reducible rfl
        try simp only [List.getElem_toArray, List.getElem_cons_zero, List.getElem_cons_succ, Act.put, List.setIfInBounds_toArray, List.set_cons_zero, List.set_cons_succ]
        refine wpAnyN_take (i := 3) (v := ?_) rfl (by kernel_rfl) (fun _ _ _ h => h) (by rfl) (fun W hW => ?_) hS0 ?_
        rotate_left
        · obtain ⟨z0, z1, z2, z3, z4, z5, z6, z7, z8, z9, z10, z11⟩ := hW
          go_simp
          try with_reducible rfl
        try simp only [List.getElem_toArray, List.getElem_cons_zero, List.getElem_cons_succ, Act.put, List.setIfInBounds_toArray, List.set_cons_zero, List.set_cons_succ]
        refine wpAnyN_take (i := 4) (v := ?_) rfl (by kernel_rfl) (fun _ _ _ h => h) (by rfl) (fun W hW => ?_) hS0 ?_
        rotate_left
        · obtain ⟨z0, z1, z2, z3, z4, z5, z6, z7, z8, z9, z10, z11⟩ := hW
          go_simp
          try with_reducible rfl
        try simp only [List.getElem_toArray, List.getElem_cons_zero, List.getElem_cons_succ, Act.put, List.setIfInBounds_toArray, List.set_cons_zero, List.set_cons_succ]
        refine wpAnyN_take (i := 5) (v := ?_) rfl (by kernel_rfl) (fun _ _ _ h => h) (by rfl) (fun W hW => ?_) hS0 ?_
        rotate_left
        · obtain ⟨z0, z1, z2, z3, z4, z5, z6, z7, z8, z9, z10, z11⟩ := hW
          go_simp
          try with_reducible rfl
        try simp only [List.getElem_toArray, List.getElem_cons_zero, List.getElem_cons_succ, Act.put, List.setIfInBounds_toArray, List.set_cons_zero, List.set_cons_succ]
        refine wpAnyN_take (i := 6) (v := ?_) rfl (by kernel_rfl) (fun _ _ _ h => h) (by rfl) (fun W hW => ?_) hS0 ?_
        rotate_left
        · obtain ⟨z0, z1, z2, z3, z4, z5, z6, z7, z8, z9, z10, z11⟩ := hW
          go_simp
          try with_reducible rfl
        try simp only [List.getElem_toArray, List.getElem_cons_zero, List.getElem_cons_succ, Act.put, List.setIfInBounds_toArray, List.set_cons_zero, List.set_cons_succ]
        refine wpAnyN_take (i := 7) (v := ?_) rfl (by kernel_rfl) (fun _ _ _ h => h) (by rfl) (fun W hW => ?_) hS0 ?_
        rotate_left
        · obtain ⟨z0, z1, z2, z3, z4, z5, z6, z7, z8, z9, z10, z11⟩ := hW
          go_simp
          try with_reducible rfl
        try simp only [List.getElem_toArray, List.getElem_cons_zero, List.getElem_cons_succ, Act.put, List.setIfInBounds_toArray, List.set_cons_zero, List.set_cons_succ]
        refine wpAnyN_take (i := 8) (v := ?_) rfl (by kernel_rfl) (fun _ _ _ h => h) (by rfl) (fun W hW => ?_) hS0 ?_
        rotate_left
        · obtain ⟨z0, z1, z2, z3, z4, z5, z6, z7, z8, z9, z10, z11⟩ := hW
          go_simp
          try with_reducible rfl
        try simp only [List.getElem_toArray, List.getElem_cons_zero, List.getElem_cons_succ, Act.put, List.setIfInBounds_toArray, List.set_cons_zero, List.set_cons_succ]
        refine wpAnyN_take (i := 9) (v := ?_) rfl (by kernel_rfl) (fun _ _ _ h => h) (by rfl) (fun W hW => ?_) hS0 ?_
        rotate_left
        · obtain ⟨z0, z1, z2, z3, z4, z5, z6, z7, z8, z9, z10, z11⟩ := hW
          go_simp
          try with_reducible rfl
        try simp only [List.getElem_toArray, List.getElem_cons_zero, List.getElem_cons_succ, Act.put, List.setIfInBounds_toArray, List.set_cons_zero, List.set_cons_succ]
        refine wpAnyN_take (i := 10) (v := ?_) rfl (by kernel_rfl) (fun _ _ _ h => h) (by rfl) (fun W hW => ?_) hS0 ?_
        rotate_left
        · obtain ⟨z0, z1, z2, z3, z4, z5, z6, z7, z8, z9, z10, z11⟩ := hW
          go_simp
          try with_reducible rfl
        try simp only [List.getElem_toArray, List.getElem_cons_zero, List.getElem_cons_succ, Act.put, List.setIfInBounds_toArray, List.set_cons_zero, List.set_cons_succ]
        refine wpAnyN_take (i := 11) (v := ?_) rfl (by kernel_rfl) (fun _ _ _ h => h) (by rfl) (fun W hW => ?_) hS0 ?_
        rotate_left
        · obtain ⟨z0, z1, z2, z3, z4, z5, z6, z7, z8, z9, z10, z11⟩ := hW
          go_simp
          try with_reducible rfl
        try simp only [List.getElem_toArray, List.getElem_cons_zero, List.getElem_cons_succ, Act.put, List.setIfInBounds_toArray, List.set_cons_zero, List.set_cons_succ]
        refine wpAnyN_take (i := 12) (v := ?_) rfl (by kernel_rfl) (fun _ _ _ h => h) (by rfl) (fun W hW => ?_) hS0 ?_
        rotate_left
        · obtain ⟨z0, z1, z2, z3, z4, z5, z6, z7, z8, z9, z10, z11⟩ := hW
          go_simp
          try with_reducible rfl
        try simp only [List.getElem_toArray, List.getElem_cons_zero, List.getElem_cons_succ, Act.put, List.setIfInBounds_toArray, List.set_cons_zero, List.set_cons_succ]
        refine wpAnyN_take (i := 13) (v := ?_) rfl (by kernel_rfl) (fun _ _ _ h => h) (by rfl) (fun W hW => ?_) hS0 ?_
        rotate_left
        · obtain ⟨z0, z1, z2, z3, z4, z5, z6, z7, z8, z9, z10, z11⟩ := hW
          go_simp
          try with_reducible rfl
        try simp only [List.getElem_toArray, List.getElem_cons_zero, List.getElem_cons_succ, Act.put, List.setIfInBounds_toArray, List.set_cons_zero, List.set_cons_succ]
        refine wpAnyN_take (i := 14) (v := ?_) rfl (by kernel_rfl) (fun _ _ _ h => h) (by rfl) (fun W hW => ?_) hS0 ?_
        rotate_left
        · obtain ⟨z0, z1, z2, z3, z4, z5, z6, z7, z8, z9, z10, z11⟩ := hW
          go_simp
          try with_reducible rfl
        try simp only [List.getElem_toArray, List.getElem_cons_zero, List.getElem_cons_succ, Act.put, List.setIfInBounds_toArray, List.set_cons_zero, List.set_cons_succ]
        refine wpAnyN_take (i := 15) (v := ?_) rfl (by kernel_rfl) (fun _ _ _ h => h) (by rfl) (fun W hW => ?_) hS0 ?_
        rotate_left
        · obtain ⟨z0, z1, z2, z3, z4, z5, z6, z7, z8, z9, z10, z11⟩ := hW
          go_simp
          try with_reducible rfl
        try simp only [List.getElem_toArray, List.getElem_cons_zero, List.getElem_cons_succ, Act.put, List.setIfInBounds_toArray, List.set_cons_zero, List.set_cons_succ]
        refine wpAnyN_take (i := 17) (v := ?_) rfl (by kernel_rfl) (fun _ _ _ h => h) (by rfl) (fun W hW => ?_) hS0 ?_
        rotate_left
        · obtain ⟨z0, z1, z2, z3, z4, z5, z6, z7, z8, z9, z10, z11⟩ := hW
          go_simp
          try with_reducible rfl
        try simp only [List.getElem_toArray, List.getElem_cons_zero, List.getElem_cons_succ, Act.put, List.setIfInBounds_toArray, List.set_cons_zero, List.set_cons_succ]
        refine wpAnyN_take (i := 18) (v := ?_) rfl (by kernel_rfl) (fun _ _ _ h => h) (by rfl) (fun W hW => ?_) hS0 ?_
        rotate_left
        · obtain ⟨z0, z1, z2, z3, z4, z5, z6, z7, z8, z9, z10, z11⟩ := hW
          go_simp
          try with_reducible rfl
        try simp only [List.getElem_toArray, List.getElem_cons_zero, List.getElem_cons_succ, Act.put, List.setIfInBounds_toArray, List.set_cons_zero, List.set_cons_succ]
        refine wpAnyN_take (i := 19) (v := ?_) rfl (by kernel_rfl) (fun _ _ _ h => h) (by rfl) (fun W hW => ?_) hS0 ?_
        rotate_left
        · obtain ⟨z0, z1, z2, z3, z4, z5, z6, z7, z8, z9, z10, z11⟩ := hW
          go_simp
          try with_reducible rfl
        try simp only [List.getElem_toArray, List.getElem_cons_zero, List.getElem_cons_succ, Act.put, List.setIfInBounds_toArray, List.set_cons_zero, List.set_cons_succ]
        refine wpAnyN_take (i := 20) (v := ?_) rfl (by kernel_rfl) (fun _ _ _ h => h) (by rfl) (fun W hW => ?_) hS0 ?_
        rotate_left
        · obtain ⟨z0, z1, z2, z3, z4, z5, z6, z7, z8, z9, z10, z11⟩ := hW
          go_simp
          try with_reducible rfl
        try simp only [List.getElem_toArray, List.getElem_cons_zero, List.getElem_cons_succ, Act.put, List.setIfInBounds_toArray, List.set_cons_zero, List.set_cons_succ]
        refine wpAnyN_take (i := 21) (v := ?_) rfl (by kernel_rfl) (fun _ _ _ h => h) (by rfl) (fun W hW => ?_) hS0 ?_
        rotate_left
        · obtain ⟨z0, z1, z2, z3, z4, z5, z6, z7, z8, z9, z10, z11⟩ := hW
          go_simp
          try with_reducible rfl
        try simp only [List.getElem_toArray, List.getElem_cons_zero, List.getElem_cons_succ, Act.put, List.setIfInBounds_toArray, List.set_cons_zero, List.set_cons_succ]
        refine wpAnyN_take (i := 22) (v := ?_) rfl (by kernel_rfl) (fun _ _ _ h => h) (by rfl) (fun W hW => ?_) hS0 ?_
        rotate_left
        · obtain ⟨z0, z1, z2, z3, z4, z5, z6, z7, z8, z9, z10, z11⟩ := hW
          go_simp
          try with_reducible rfl
        try simp only [List.getElem_toArray, List.getElem_cons_zero, List.getElem_cons_succ, Act.put, List.setIfInBounds_toArray, List.set_cons_zero, List.set_cons_succ]
        refine wpAnyN_take (i := 23) (v := ?_) rfl (by kernel_rfl) (fun _ _ _ h => h) (by rfl) (fun W hW => ?_) hS0 ?_
        rotate_left
        · obtain ⟨z0, z1, z2, z3, z4, z5, z6, z7, z8, z9, z10, z11⟩ := hW
          go_simp
          try with_reducible rfl
        try simp only [List.getElem_toArray, List.getElem_cons_zero, List.getElem_cons_succ, Act.put, List.setIfInBounds_toArray, List.set_cons_zero, List.set_cons_succ]
        refine wpAnyN_take (i := 24) (v := ?_) rfl (by kernel_rfl) (fun _ _ _ h => h) (by rfl) (fun W hW => ?_) hS0 ?_
        rotate_left
        · obtain ⟨z0, z1, z2, z3, z4, z5, z6, z7, z8, z9, z10, z11⟩ := hW
          go_simp
          try with_reducible rfl
        try simp only [List.getElem_toArray, List.getElem_cons_zero, List.getElem_cons_succ, Act.put, List.setIfInBounds_toArray, List.set_cons_zero, List.set_cons_succ]
        refine wpAnyN_next (i := 16) rfl (by kernel_rfl) (fun Kc hK => ?_)
        go_simp
        go_wp2_with (go_at_call 69; refine (CT1.out _).mono ?_; rintro e w7 ⟨rfl, hb7⟩)
        have c7 : Below w6.heap.size w6 w7 := c6.trans hb7
        refine hK.out _ _ (fun _ => HS.out _ c7) ?_
        clear hK Kc
        try simp only [List.getElem_toArray, List.getElem_cons_zero, List.getElem_cons_succ, Act.put, List.setIfInBounds_toArray, List.set_cons_zero, List.set_cons_succ]
        refine wpAnyN_next (i := 25) rfl (by kernel_rfl) (fun Kc hK => ?_)
        go_simp
        go_wp2_with (go_at_call 70; refine (CT2.out _).mono ?_; rintro e w8 ⟨rfl, hb8⟩)
        have c8 : Below w6.heap.size w6 w8 := c7.trans (hb8.mono c7.size)
        refine hK.out _ _ (fun _ => HS.out _ c8) ?_
        clear hK Kc
        try simp only [List.getElem_toArray, List.getElem_cons_zero, List.getElem_cons_succ, Act.put, List.setIfInBounds_toArray, List.set_cons_zero, List.set_cons_succ]
        have Y8 := Y6.out.next c8
        have y0 : w8.cell? ⟨Y, 0, none⟩ = some (.int .u64 0) := by rw [Y8.cell 0]; rfl
        have y1 : w8.cell? ⟨Y, 1, none⟩ = some (.int .u64 0) := by rw [Y8.cell 1]; rfl
        have f0 := Y8.frozen 0
        have f1 := Y8.frozen 1
        refine wpAnyN_next (i := 26) rfl (by kernel_rfl) (fun Kc hK => ?_)
        go_simp
        refine hK.out _ _ (fun h => absurd h (by decide)) ?_
        clear hK Kc
        try simp only [List.getElem_toArray, List.getElem_cons_zero, List.getElem_cons_succ, Act.put, List.setIfInBounds_toArray, List.set_cons_zero, List.set_cons_succ]
        refine wpAnyN_done (by kernel_rfl) ?_ _
        have P8 := P6.out.next c8
        have P9a := P8.far (i := 0) (u := .int .u64 v.1.1) Y8 (by omega) nYM.out.1 nYM.out.2
        have Y9a := Y8.set_ 0 (.int .u64 v.1.1)
        have P9 := Lib.hid (P9a.far (i := 1) (u := .int .u64 v.1.2) Y9a (by omega) nYM.out.1 nYM.out.2)
        have Y9 := Lib.hid (show Blk ((w8.setCell ⟨Y, 0, none⟩ (.int .u64 v.1.1)).setCell ⟨Y, 1, none⟩ (.int .u64 v.1.2)) Y 107 #[.int .u64 v.1.1, .int .u64 v.1.2] from Y9a.set_ 1 (.int .u64 v.1.2))
        have Z9 := Lib.hid (((Z6.out.next c8).far (p := ⟨Y, 0, none⟩) (by show Z ≠ Y; omega) (.int .u64 v.1.1)).far (p := ⟨Y, 1, none⟩) (by show Z ≠ Y; omega) (.int .u64 v.1.2))
        have neY : ∀ g : Nat, g < w6.heap.size → g ≠ Y → ∀ j, ((w8.setCell ⟨Y, 0, none⟩ (.int .u64 v.1.1)).setCell ⟨Y, 1, none⟩ (.int .u64 v.1.2)).cell? ⟨g, j, none⟩ = w8.cell? ⟨g, j, none⟩ := fun g hg hgy j => by
          rw [World.cell?_of_block (Below.heap_setCell _ ⟨Y, 1, none⟩ _ g hgy), World.cell?_of_block (Below.heap_setCell _ ⟨Y, 0, none⟩ _ g hgy)]
        have gmY : gm ≠ Y := fun e => nYM.out.1 (by rw [e]; rfl)
        have gsY : gs ≠ Y := fun e => nYM.out.2 (by rw [e]; rfl)
        have XY : X ≠ Y := by omega
        have lX := X6.out.lt
        have lB := P6.out.b.lt
        have BY : B ≠ Y := fun e => by
          have h1 := P8.b
          rw [e] at h1
          unfold Blk at h1 Y8
          rw [Y8] at h1
          injection h1 with h1
          injection h1 with _ h1
          exact absurd h1 (by decide)
        have HS9 := Lib.hid (show ∀ W, Below ((w8.setCell ⟨Y, 0, none⟩ (.int .u64 v.1.1)).setCell ⟨Y, 1, none⟩ (.int .u64 v.1.2)).heap.size ((w8.setCell ⟨Y, 0, none⟩ (.int .u64 v.1.1)).setCell ⟨Y, 1, none⟩ (.int .u64 v.1.2)) W → (W.cell? ⟨B, 2, none⟩ = some (.slice (some ⟨gm, 0, none⟩) k cm) ∧ W.cell? ⟨B, 3, none⟩ = some (.slice (some ⟨gs, 0, none⟩) k cs) ∧ W.cell? ⟨X, 1, none⟩ = some (.int .i64 a) ∧ W.cell? ⟨X, 2, none⟩ = some (.int .i64 b) ∧ W.cell? ⟨gm, a * 2, none⟩ = some (.int .u64 ma.1) ∧ W.cell? ⟨gm, a * 2 + 1, none⟩ = some (.int .u64 ma.2) ∧ W.cell? ⟨gm, b * 2, none⟩ = some (.int .u64 mb.1) ∧ W.cell? ⟨gm, b * 2 + 1, none⟩ = some (.int .u64 mb.2) ∧ W.cell? ⟨gs, a * 2, none⟩ = some (.int .u64 sa.1) ∧ W.cell? ⟨gs, a * 2 + 1, none⟩ = some (.int .u64 sa.2) ∧ W.cell? ⟨gs, b * 2, none⟩ = some (.int .u64 sb.1) ∧ W.cell? ⟨gs, b * 2 + 1, none⟩ = some (.int .u64 sb.2)) from fun W h => by
          have h8 := HS.out _ c8
          obtain ⟨q0, q1, q2, q3, q4, q5, q6, q7, q8, q9, q10, q11⟩ := h8
          have sz : ((w8.setCell ⟨Y, 0, none⟩ (.int .u64 v.1.1)).setCell ⟨Y, 1, none⟩ (.int .u64 v.1.2)).heap.size = w8.heap.size := by simp [World.setCell]
          have t : ∀ g : Nat, g < w6.heap.size → g ≠ Y → ∀ j, W.cell? ⟨g, j, none⟩ = w8.cell? ⟨g, j, none⟩ := fun g hg hgy j => (h.cell (p := ⟨g, j, none⟩) (by rw [sz]; exact Nat.lt_of_lt_of_le hg c8.size)).trans (neY g hg hgy j)
          exact ⟨(t B lB BY _).trans q0, (t B lB BY _).trans q1, (t X lX XY _).trans q2, (t X lX XY _).trans q3, (t gm hgm gmY _).trans q4, (t gm hgm gmY _).trans q5, (t gm hgm gmY _).trans q6, (t gm hgm gmY _).trans q7,
            (t gs hgs gsY _).trans q8, (t gs hgs gsY _).trans q9, (t gs hgs gsY _).trans q10, (t gs hgs gsY _).trans q11⟩)
        clear P9a Y9a P8 Y8 y0 y1 f0 f1 HS CT1 CT2 P6 X6 Y6 Z6 neY c6 c7 c8 hb7 hb8 lX lB gmY gsY BY XY
        generalize ((w8.setCell ⟨Y, 0, none⟩ (.int .u64 v.1.1)).setCell ⟨Y, 1, none⟩ (.int .u64 v.1.2)) = w9 at *
        go_wp2_with fail
        refine wp_region_N (fun W => W.cell? ⟨B, 2, none⟩ = some (.slice (some ⟨gm, 0, none⟩) k cm) ∧ W.cell? ⟨B, 3, none⟩ = some (.slice (some ⟨gs, 0, none⟩) k cs) ∧ W.cell? ⟨X, 1, none⟩ = some (.int .i64 a) ∧ W.cell? ⟨X, 2, none⟩ = some (.int .i64 b) ∧ W.cell? ⟨gm, a * 2, none⟩ = some (.int .u64 ma.1) ∧ W.cell? ⟨gm, a * 2 + 1, none⟩ = some (.int .u64 ma.2) ∧ W.cell? ⟨gm, b * 2, none⟩ = some (.int .u64 mb.1) ∧ W.cell? ⟨gm, b * 2 + 1, none⟩ = some (.int .u64 mb.2) ∧ W.cell? ⟨gs, a * 2, none⟩ = some (.int .u64 sa.1) ∧ W.cell? ⟨gs, a * 2 + 1, none⟩ = some (.int .u64 sa.2) ∧ W.cell? ⟨gs, b * 2, none⟩ = some (.int .u64 sb.1) ∧ W.cell? ⟨gs, b * 2 + 1, none⟩ = some (.int .u64 sb.2)) [17] (by kernel_rfl) ?_
        have c9 : Below w9.heap.size w9 w9.drew := (Below.refl _ _).drew
        have hS0 := HS9.out _ c9
        refine wpAnyN_take (i := 0) (v := ?_) rfl (by kernel_rfl) (fun _ _ _ h => h) (by rfl) (fun W hW => ?_) hS0 ?_
        rotate_left
        · obtain ⟨z0, z1, z2, z3, z4, z5, z6, z7, z8, z9, z10, z11⟩ := hW
          go_simp
          try with_reducible rfl
        try simp only [List.getElem_toArray, List.getElem_cons_zero, List.getElem_cons_succ, Act.put, List.setIfInBounds_toArray, List.set_cons_zero, List.set_cons_succ]
        refine wpAnyN_take (i := 1) (v := ?_) rfl (by kernel_rfl) (fun _ _ _ h => h) (by rfl) (fun W hW => ?_) hS0 ?_
        rotate_left
        · obtain ⟨z0, z1, z2, z3, z4, z5, z6, z7, z8, z9, z10, z11⟩ := hW
          go_simp
          try with_reducible rfl
        try simp only [List.getElem_toArray, List.getElem_cons_zero, List.getElem_cons_succ, Act.put, List.setIfInBounds_toArray, List.set_cons_zero, List.set_cons_succ]
        refine wpAnyN_take (i := 2) (v := ?_) rfl (by kernel_rfl) (fun _ _ _ h => h) (by rfl) (fun W hW => ?_) hS0 ?_
        rotate_left
        · obtain ⟨z0, z1, z2, z3, z4, z5, z6, z7, z8, z9, z10, z11⟩ := hW
          go_simp
          try with_reducible rfl
        try simp only [List.getElem_toArray, List.getElem_cons_zero, List.getElem_cons_succ, Act.put, List.setIfInBounds_toArray, List.set_cons_zero, List.set_cons_succ]
        refine wpAnyN_take (i := 3) (v := ?_) rfl (by kernel_rfl) (fun _ _ _ h => h) (by rfl) (fun W hW => ?_) hS0 ?_
        rotate_left
        · obtain ⟨z0, z1, z2, z3, z4, z5, z6, z7, z8, z9, z10, z11⟩ := hW
          go_simp
          try with_reducible rfl
        try simp only [List.getElem_toArray, List.getElem_cons_zero, List.getElem_cons_succ, Act.put, List.setIfInBounds_toArray, List.set_cons_zero, List.set_cons_succ]
        refine wpAnyN_take (i := 4) (v := ?_) rfl (by kernel_rfl) (fun _ _ _ h => h) (by rfl) (fun W hW => ?_) hS0 ?_
        rotate_left
        · obtain ⟨z0, z1, z2, z3, z4, z5, z6, z7, z8, z9, z10, z11⟩ := hW
          go_simp
          try with_reducible rfl
        try simp only [List.getElem_toArray, List.getElem_cons_zero, List.getElem_cons_succ, Act.put, List.setIfInBounds_toArray, List.set_cons_zero, List.set_cons_succ]
        refine wpAnyN_take (i := 5) (v := ?_) rfl (by kernel_rfl) (fun _ _ _ h => h) (by rfl) (fun W hW => ?_) hS0 ?_
        rotate_left
        · obtain ⟨z0, z1, z2, z3, z4, z5, z6, z7, z8, z9, z10, z11⟩ := hW
          go_simp
          try with_reducible rfl
        try simp only [List.getElem_toArray, List.getElem_cons_zero, List.getElem_cons_succ, Act.put, List.setIfInBounds_toArray, List.set_cons_zero, List.set_cons_succ]
        refine wpAnyN_take (i := 6) (v := ?_) rfl (by kernel_rfl) (fun _ _ _ h => h) (by rfl) (fun W hW => ?_) hS0 ?_
        rotate_left
        · obtain ⟨z0, z1, z2, z3, z4, z5, z6, z7, z8, z9, z10, z11⟩ := hW
          go_simp
          try with_reducible rfl
        try simp only [List.getElem_toArray, List.getElem_cons_zero, List.getElem_cons_succ, Act.put, List.setIfInBounds_toArray, List.set_cons_zero, List.set_cons_succ]
        refine wpAnyN_take (i := 7) (v := ?_) rfl (by kernel_rfl) (fun _ _ _ h => h) (by rfl) (fun W hW => ?_) hS0 ?_
        rotate_left
        · obtain ⟨z0, z1, z2, z3, z4, z5, z6, z7, z8, z9, z10, z11⟩ := hW
          go_simp
          try with_reducible rfl
        try simp only [List.getElem_toArray, List.getElem_cons_zero, List.getElem_cons_succ, Act.put, List.setIfInBounds_toArray, List.set_cons_zero, List.set_cons_succ]
        refine wpAnyN_take (i := 8) (v := ?_) rfl (by kernel_rfl) (fun _ _ _ h => h) (by rfl) (fun W hW => ?_) hS0 ?_
        rotate_left
        · obtain ⟨z0, z1, z2, z3, z4, z5, z6, z7, z8, z9, z10, z11⟩ := hW
          go_simp
          try with_reducible rfl
        try simp only [List.getElem_toArray, List.getElem_cons_zero, List.getElem_cons_succ, Act.put, List.setIfInBounds_toArray, List.set_cons_zero, List.set_cons_succ]
        refine wpAnyN_take (i := 9) (v := ?_) rfl (by kernel_rfl) (fun _ _ _ h => h) (by rfl) (fun W hW => ?_) hS0 ?_
        rotate_left
        · obtain ⟨z0, z1, z2, z3, z4, z5, z6, z7, z8, z9, z10, z11⟩ := hW
          go_simp
          try with_reducible rfl
        try simp only [List.getElem_toArray, List.getElem_cons_zero, List.getElem_cons_succ, Act.put, List.setIfInBounds_toArray, List.set_cons_zero, List.set_cons_succ]
        refine wpAnyN_take (i := 10) (v := ?_) rfl (by kernel_rfl) (fun _ _ _ h => h) (by rfl) (fun W hW => ?_) hS0 ?_
        rotate_left
        · obtain ⟨z0, z1, z2, z3, z4, z5, z6, z7, z8, z9, z10, z11⟩ := hW
          go_simp
          try with_reducible rfl
        try simp only [List.getElem_toArray, List.getElem_cons_zero, List.getElem_cons_succ, Act.put, List.setIfInBounds_toArray, List.set_cons_zero, List.set_cons_succ]
        refine wpAnyN_take (i := 11) (v := ?_) rfl (by kernel_rfl) (fun _ _ _ h => h) (by rfl) (fun W hW => ?_) hS0 ?_
        rotate_left
        · obtain ⟨z0, z1, z2, z3, z4, z5, z6, z7, z8, z9, z10, z11⟩ := hW
          go_simp
          try with_reducible rfl
        try simp only [List.getElem_toArray, List.getElem_cons_zero, List.getElem_cons_succ, Act.put, List.setIfInBounds_toArray, List.set_cons_zero, List.set_cons_succ]
        refine wpAnyN_take (i := 12) (v := ?_) rfl (by kernel_rfl) (fun _ _ _ h => h) (by rfl) (fun W hW => ?_) hS0 ?_
        rotate_left
        · obtain ⟨z0, z1, z2, z3, z4, z5, z6, z7, z8, z9, z10, z11⟩ := hW
          go_simp
          try with_reducible rfl
        try simp only [List.getElem_toArray, List.getElem_cons_zero, List.getElem_cons_succ, Act.put, List.setIfInBounds_toArray, List.set_cons_zero, List.set_cons_succ]
        refine wpAnyN_take (i := 13) (v := ?_) rfl (by kernel_rfl) (fun _ _ _ h => h) (by rfl) (fun W hW => ?_) hS0 ?_
        rotate_left
        · obtain ⟨z0, z1, z2, z3, z4, z5, z6, z7, z8, z9, z10, z11⟩ := hW
          go_simp
          try with_reducible rfl
        try simp only [List.getElem_toArray, List.getElem_cons_zero, List.getElem_cons_succ, Act.put, List.setIfInBounds_toArray, List.set_cons_zero, List.set_cons_succ]
        refine wpAnyN_take (i := 14) (v := ?_) rfl (by kernel_rfl) (fun _ _ _ h => h) (by rfl) (fun W hW => ?_) hS0 ?_
        rotate_left
        · obtain ⟨z0, z1, z2, z3, z4, z5, z6, z7, z8, z9, z10, z11⟩ := hW
          go_simp
          try with_reducible rfl
        try simp only [List.getElem_toArray, List.getElem_cons_zero, List.getElem_cons_succ, Act.put, List.setIfInBounds_toArray, List.set_cons_zero, List.set_cons_succ]
        refine wpAnyN_take (i := 15) (v := ?_) rfl (by kernel_rfl) (fun _ _ _ h => h) (by rfl) (fun W hW => ?_) hS0 ?_
        rotate_left
        · obtain ⟨z0, z1, z2, z3, z4, z5, z6, z7, z8, z9, z10, z11⟩ := hW
          go_simp
          try with_reducible rfl
        try simp only [List.getElem_toArray, List.getElem_cons_zero, List.getElem_cons_succ, Act.put, List.setIfInBounds_toArray, List.set_cons_zero, List.set_cons_succ]
        refine wpAnyN_next (i := 16) rfl (by kernel_rfl) (fun Kc hK => ?_)
        go_simp
        go_wp2_with (go_at_call 69; refine (CT3.out _).mono ?_; rintro e w10 ⟨rfl, hb10⟩)
        have c10 : Below w9.heap.size w9 w10 := c9.trans hb10
        refine hK.out _ _ (fun _ => HS9.out _ c10) ?_
        clear hK Kc
        try simp only [List.getElem_toArray, List.getElem_cons_zero, List.getElem_cons_succ, Act.put, List.setIfInBounds_toArray, List.set_cons_zero, List.set_cons_succ]
        have Z10 := Z9.out.next c10
        have y0 : w10.cell? ⟨Z, 0, none⟩ = some (.int .u64 bp.1) := by rw [Z10.cell 0]; rfl
        have y1 : w10.cell? ⟨Z, 1, none⟩ = some (.int .u64 bp.2) := by rw [Z10.cell 1]; rfl
        have f0 := Z10.frozen 0
        have f1 := Z10.frozen 1
        refine wpAnyN_next (i := 17) rfl (by kernel_rfl) (fun Kc hK => ?_)
        go_simp
        refine hK.out _ _ (fun h => absurd h (by decide)) ?_
        clear hK Kc
        try simp only [List.getElem_toArray, List.getElem_cons_zero, List.getElem_cons_succ, Act.put, List.setIfInBounds_toArray, List.set_cons_zero, List.set_cons_succ]
        refine wpAnyN_done (by kernel_rfl) ?_ _
        have P10 := P9.out.next c10
        have P11a := P10.far (i := 0) (u := .int .u64 v.2.1) Z10 (by omega) nZM.out.1 nZM.out.2
        have Z11a := Z10.set_ 0 (.int .u64 v.2.1)
        have PP := Lib.hid (P11a.far (i := 1) (u := .int .u64 v.2.2) Z11a (by omega) nZM.out.1 nZM.out.2)
        have ZZ := Lib.hid (show Blk ((w10.setCell ⟨Z, 0, none⟩ (.int .u64 v.2.1)).setCell ⟨Z, 1, none⟩ (.int .u64 v.2.2)) Z 107 #[.int .u64 v.2.1, .int .u64 v.2.2] from Z11a.set_ 1 (.int .u64 v.2.2))
        have YY := Lib.hid (((Y9.out.next c10).far (p := ⟨Z, 0, none⟩) (by show Y ≠ Z; omega) (.int .u64 v.2.1)).far (p := ⟨Z, 1, none⟩) (by show Y ≠ Z; omega) (.int .u64 v.2.2))
        clear P11a Z11a P10 Z10 y0 y1 f0 f1 HS9 CT3 P9 Y9 Z9 c9 c10 hb10 i0 i1 i2 i3
        generalize ((w10.setCell ⟨Z, 0, none⟩ (.int .u64 v.2.1)).setCell ⟨Z, 1, none⟩ (.int .u64 v.2.2)) = w12 at *
        go_wp2_with fail

        have zk : (k + 1) * 16 ≤ 140737488355328 := by omega
        have zkm : k + 1 ≤ maxLen := by unfold maxLen; omega
        have HS := Lib.hid (show ∀ W, Blk W B 105 #[.slice (some ⟨gb, go_, none⟩) n c, .slice L n cl, .slice (some ⟨gm, 0, none⟩) k cm, .slice (some ⟨gs, 0, none⟩) k cs] → Blk W Y 107 #[.int .u64 v.1.1, .int .u64 v.1.2] → Blk W Z 107 #[.int .u64 v.2.1, .int .u64 v.2.2] → (W.cell? ⟨B, 2, none⟩ = some (.slice (some ⟨gm, 0, none⟩) k cm) ∧ W.cell? ⟨B, 3, none⟩ = some (.slice (some ⟨gs, 0, none⟩) k cs) ∧ W.cell? ⟨Y, 0, none⟩ = some (.int .u64 v.1.1) ∧ W.cell? ⟨Y, 1, none⟩ = some (.int .u64 v.1.2) ∧ W.cell? ⟨Z, 0, none⟩ = some (.int .u64 v.2.1) ∧ W.cell? ⟨Z, 1, none⟩ = some (.int .u64 v.2.2)) from fun W h1 h2 h3 => ⟨h1.cell 2, h1.cell 3, h2.cell 0, h2.cell 1, h3.cell 0, h3.cell 1⟩)
        refine wp_region_N (fun _ => True) [] (by kernel_rfl) ?_
        refine wpAnyN_take (i := 1) (v := ?_) rfl (by kernel_rfl) (fun _ _ _ h => h) (by rfl) (fun W hW => ?_) trivial ?_
        rotate_left
        · go_simp
          try with_reducible rfl
        try simp only [List.getElem_toArray, List.getElem_cons_zero, List.getElem_cons_succ, Act.put, List.setIfInBounds_toArray, List.set_cons_zero, List.set_cons_succ]
        refine wpAnyN_T _ (wpAny_of_N (S := fun W => W.cell? ⟨B, 2, none⟩ = some (.slice (some ⟨gm, 0, none⟩) k cm) ∧ W.cell? ⟨B, 3, none⟩ = some (.slice (some ⟨gs, 0, none⟩) k cs) ∧ W.cell? ⟨Y, 0, none⟩ = some (.int .u64 v.1.1) ∧ W.cell? ⟨Y, 1, none⟩ = some (.int .u64 v.1.2) ∧ W.cell? ⟨Z, 0, none⟩ = some (.int .u64 v.2.1) ∧ W.cell? ⟨Z, 1, none⟩ = some (.int .u64 v.2.2)) (N := [18, 19, 20, 21]) _ _ _ _ ?_)
        have P0 := Lib.hid (PP.out.next (Below.refl _ _).drew)
        have Y0 := Lib.hid (YY.out.next (Below.refl _ _).drew)
        have Z0 := Lib.hid (ZZ.out.next (Below.refl _ _).drew)
        have hS0 := HS.out _ P0.out.b Y0.out Z0.out
        generalize w12.drew = w0 at *
        clear PP YY ZZ
        refine wpAnyN_take (i := 0) (v := ?_) rfl (by kernel_rfl) (fun _ _ _ h => h) (by rfl) (fun W hW => ?_) hS0 ?_
        rotate_left
        · obtain ⟨z0, z1, z2, z3, z4, z5⟩ := hW
          go_simp
          try with_reducible rfl
        try simp only [List.getElem_toArray, List.getElem_cons_zero, List.getElem_cons_succ, Act.put, List.setIfInBounds_toArray, List.set_cons_zero, List.set_cons_succ]
        refine wpAnyN_take (i := 2) (v := ?_) rfl (by kernel_rfl) (fun _ _ _ h => h) (by rfl) (fun W hW => ?_) hS0 ?_
        rotate_left
        · obtain ⟨z0, z1, z2, z3, z4, z5⟩ := hW
          go_simp
          try with_reducible rfl
        try simp only [List.getElem_toArray, List.getElem_cons_zero, List.getElem_cons_succ, Act.put, List.setIfInBounds_toArray, List.set_cons_zero, List.set_cons_succ]
        refine wpAnyN_take (i := 3) (v := ?_) rfl (by kernel_rfl) (fun _ _ _ h => h) (by rfl) (fun W hW => ?_) hS0 ?_
        rotate_left
        · obtain ⟨z0, z1, z2, z3, z4, z5⟩ := hW
          go_simp
          try with_reducible rfl
        try simp only [List.getElem_toArray, List.getElem_cons_zero, List.getElem_cons_succ, Act.put, List.setIfInBounds_toArray, List.set_cons_zero, List.set_cons_succ]
        refine wpAnyN_take (i := 4) (v := ?_) rfl (by kernel_rfl) (fun _ _ _ h => h) (by rfl) (fun W hW => ?_) hS0 ?_
        rotate_left
        · obtain ⟨z0, z1, z2, z3, z4, z5⟩ := hW
          go_simp
          try with_reducible rfl
        try simp only [List.getElem_toArray, List.getElem_cons_zero, List.getElem_cons_succ, Act.put, List.setIfInBounds_toArray, List.set_cons_zero, List.set_cons_succ]
        refine wpAnyN_take (i := 5) (v := ?_) rfl (by kernel_rfl) (fun _ _ _ h => h) (by rfl) (fun W hW => ?_) hS0 ?_
        rotate_left
        · obtain ⟨z0, z1, z2, z3, z4, z5⟩ := hW
          go_simp
          try with_reducible rfl
        try simp only [List.getElem_toArray, List.getElem_cons_zero, List.getElem_cons_succ, Act.put, List.setIfInBounds_toArray, List.set_cons_zero, List.set_cons_succ]
        refine wpAnyN_take (i := 6) (v := ?_) rfl (by kernel_rfl) (fun _ _ _ h => h) (by rfl) (fun W hW => ?_) hS0 ?_
        rotate_left
        · obtain ⟨z0, z1, z2, z3, z4, z5⟩ := hW
          go_simp
          try with_reducible rfl
        try simp only [List.getElem_toArray, List.getElem_cons_zero, List.getElem_cons_succ, Act.put, List.setIfInBounds_toArray, List.set_cons_zero, List.set_cons_succ]
        refine wpAnyN_take (i := 9) (v := ?_) rfl (by kernel_rfl) (fun _ _ _ h => h) (by rfl) (fun W hW => ?_) hS0 ?_
        rotate_left
        · obtain ⟨z0, z1, z2, z3, z4, z5⟩ := hW
          go_simp
          try with_reducible rfl
        try simp only [List.getElem_toArray, List.getElem_cons_zero, List.getElem_cons_succ, Act.put, List.setIfInBounds_toArray, List.set_cons_zero, List.set_cons_succ]
        refine wpAnyN_take (i := 10) (v := ?_) rfl (by kernel_rfl) (fun _ _ _ h => h) (by rfl) (fun W hW => ?_) hS0 ?_
        rotate_left
        · obtain ⟨z0, z1, z2, z3, z4, z5⟩ := hW
          go_simp
          try with_reducible rfl
        try simp only [List.getElem_toArray, List.getElem_cons_zero, List.getElem_cons_succ, Act.put, List.setIfInBounds_toArray, List.set_cons_zero, List.set_cons_succ]
        refine wpAnyN_take (i := 11) (v := ?_) rfl (by kernel_rfl) (fun _ _ _ h => h) (by rfl) (fun W hW => ?_) hS0 ?_
        rotate_left
        · obtain ⟨z0, z1, z2, z3, z4, z5⟩ := hW
          go_simp
          try with_reducible rfl
        try simp only [List.getElem_toArray, List.getElem_cons_zero, List.getElem_cons_succ, Act.put, List.setIfInBounds_toArray, List.set_cons_zero, List.set_cons_succ]
        refine wpAnyN_take (i := 12) (v := ?_) rfl (by kernel_rfl) (fun _ _ _ h => h) (by rfl) (fun W hW => ?_) hS0 ?_
        rotate_left
        · obtain ⟨z0, z1, z2, z3, z4, z5⟩ := hW
          go_simp
          try with_reducible rfl
        try simp only [List.getElem_toArray, List.getElem_cons_zero, List.getElem_cons_succ, Act.put, List.setIfInBounds_toArray, List.set_cons_zero, List.set_cons_succ]
        refine wpAnyN_take (i := 13) (v := ?_) rfl (by kernel_rfl) (fun _ _ _ h => h) (by rfl) (fun W hW => ?_) hS0 ?_
        rotate_left
        · obtain ⟨z0, z1, z2, z3, z4, z5⟩ := hW
          go_simp
          try with_reducible rfl
        try simp only [List.getElem_toArray, List.getElem_cons_zero, List.getElem_cons_succ, Act.put, List.setIfInBounds_toArray, List.set_cons_zero, List.set_cons_succ]
        clear hS0
        refine wpAnyN_two (i := 7) (j := 14) rfl rfl (by kernel_rfl) (fun Kc hK => ?g1p) (fun Kc hK => ?g2p)
        case' g1p =>
          go_simp
          have P4 := Lib.hid (P0.out.alloc (.cells #[.int .u64 v.1.1, .int .u64 v.1.2] 107))
          have Y4 := Lib.hid (Y0.out.alloc (.cells #[.int .u64 v.1.1, .int .u64 v.1.2] 107))
          have Z4 := Lib.hid (Z0.out.alloc (.cells #[.int .u64 v.1.1, .int .u64 v.1.2] 107))
          refine hK.out _ _ (fun _ => HS.out _ P4.out.b Y4.out Z4.out) ?_
          clear hK Kc
          try simp only [List.getElem_toArray, List.getElem_cons_zero, List.getElem_cons_succ, Act.put, List.setIfInBounds_toArray, List.set_cons_zero, List.set_cons_succ]
          refine wpAnyN_two (i := 8) (j := 14) rfl rfl (by kernel_rfl) (fun Kc hK => ?g3p) (fun Kc hK => ?g4p)
        case' g3p =>
          refine step_pushL (by rfl) _ _ _ (by rfl) w.heap.size 107 2 16 elem_print prE (some ⟨gm, 0, none⟩) k cm ((outs wvD wvF wvG rs k).map (·.1)) (by rfl) P4.out.m _ v.1 #[.int .u64 v.1.1, .int .u64 v.1.2] 107 (0, 0) (by rfl) (heap_alloc_new _ _) rfl rfl (one_print _) (by omega) zk zkm P4.out.e.size ?_
          intro M8 c8 w8 own8 hg8 old8
          have P5 := Lib.hid (P4.out.pushM own8 hg8 old8)
          have Y5 := Lib.hid (Y4.out.grown hg8 nYM.out.1)
          have Z5 := Lib.hid (Z4.out.grown hg8 nZM.out.1)
          refine hK.out _ _ (fun _ => HS.out _ P5.out.b Y5.out Z5.out) ?_
          clear hK Kc
          try simp only [List.getElem_toArray, List.getElem_cons_zero, List.getElem_cons_succ, Act.put, List.setIfInBounds_toArray, List.set_cons_zero, List.set_cons_succ]
          refine wpAnyN_next (i := 14) rfl (by kernel_rfl) (fun Kc hK => ?_)
          go_simp
          have P6 := Lib.hid (P5.out.alloc (.cells #[.int .u64 v.2.1, .int .u64 v.2.2] 107))
          have Y6 := Lib.hid (Y5.out.alloc (.cells #[.int .u64 v.2.1, .int .u64 v.2.2] 107))
          have Z6 := Lib.hid (Z5.out.alloc (.cells #[.int .u64 v.2.1, .int .u64 v.2.2] 107))
          refine hK.out _ _ (fun _ => HS.out _ P6.out.b Y6.out Z6.out) ?_
          clear hK Kc
          try simp only [List.getElem_toArray, List.getElem_cons_zero, List.getElem_cons_succ, Act.put, List.setIfInBounds_toArray, List.set_cons_zero, List.set_cons_succ]
          refine wpAnyN_next (i := 15) rfl (by kernel_rfl) (fun Kc hK => ?_)
          refine step_pushL (by rfl) _ _ _ (by rfl) w.heap.size 107 2 16 elem_print prE (some ⟨gs, 0, none⟩) k cs ((outs wvD wvF wvG rs k).map (·.2)) (by rfl) P6.out.s _ v.2 #[.int .u64 v.2.1, .int .u64 v.2.2] 107 (0, 0) (by rfl) (heap_alloc_new _ _) rfl rfl (one_print _) (by omega) zk zkm P6.out.e.size ?_
          intro S8 d8 w9 own9 hg9 old9
          have P7 := Lib.hid (P6.out.pushS own9 hg9 old9)
          have Y7 := Lib.hid (Y6.out.grown hg9 nYM.out.2)
          have Z7 := Lib.hid (Z6.out.grown hg9 nZM.out.2)
          refine hK.out _ _ (fun _ => HS.out _ P7.out.b Y7.out Z7.out) ?_
          clear hK Kc
          try simp only [List.getElem_toArray, List.getElem_cons_zero, List.getElem_cons_succ, Act.put, List.setIfInBounds_toArray, List.set_cons_zero, List.set_cons_succ]
          clear own8 own9 hg8 hg9 old8 old9 P4 P5 P6 Y4 Y5 Y6 Z4 Z5 Z6 P0 Y0 Z0
        case' g4p =>
          go_simp
          have P5 := Lib.hid (P4.out.alloc (.cells #[.int .u64 v.2.1, .int .u64 v.2.2] 107))
          have Y5 := Lib.hid (Y4.out.alloc (.cells #[.int .u64 v.2.1, .int .u64 v.2.2] 107))
          have Z5 := Lib.hid (Z4.out.alloc (.cells #[.int .u64 v.2.1, .int .u64 v.2.2] 107))
          refine hK.out _ _ (fun _ => HS.out _ P5.out.b Y5.out Z5.out) ?_
          clear hK Kc
          try simp only [List.getElem_toArray, List.getElem_cons_zero, List.getElem_cons_succ, Act.put, List.setIfInBounds_toArray, List.set_cons_zero, List.set_cons_succ]
          have nR := Lib.hid ((Blk.new w0 107 #[.int .u64 v.1.1, .int .u64 v.1.2]).alloc (.cells #[.int .u64 v.2.1, .int .u64 v.2.2] 107))
          have nS := Lib.hid (show Blk ((w0.alloc (.cells #[.int .u64 v.1.1, .int .u64 v.1.2] 107)).alloc (.cells #[.int .u64 v.2.1, .int .u64 v.2.2] 107)) (w0.heap.size + 1) 107 #[.int .u64 v.2.1, .int .u64 v.2.2] by
            have h := Blk.new (w0.alloc (.cells #[.int .u64 v.1.1, .int .u64 v.1.2] 107)) 107 #[.int .u64 v.2.1, .int .u64 v.2.2]
            rw [show (w0.alloc (.cells #[.int .u64 v.1.1, .int .u64 v.1.2] 107)).heap.size = w0.heap.size + 1 by simp] at h; exact h)
          have nSM := Lib.hid (show some (w0.heap.size + 1) ≠ (Value.slice (some ⟨gm, 0, none⟩) k cm).ownBlock from fun e => by have := (P0.out.m.lt _ e.symm).2; omega)
          refine wpAnyN_next (i := 8) rfl (by kernel_rfl) (fun Kc hK => ?_)
          refine step_pushL (by rfl) _ _ _ (by rfl) w.heap.size 107 2 16 elem_print prE (some ⟨gm, 0, none⟩) k cm ((outs wvD wvF wvG rs k).map (·.1)) (by rfl) P5.out.m _ v.1 #[.int .u64 v.1.1, .int .u64 v.1.2] 107 (0, 0) (by rfl) nR.out rfl rfl (one_print _) (by omega) zk zkm P5.out.e.size ?_
          intro M8 c8 w8 own8 hg8 old8
          have nS8 := Lib.hid (nS.out.grown hg8 nSM.out)
          have P6 := Lib.hid (P5.out.pushM own8 hg8 old8)
          have Y6 := Lib.hid (Y5.out.grown hg8 nYM.out.1)
          have Z6 := Lib.hid (Z5.out.grown hg8 nZM.out.1)
          refine hK.out _ _ (fun _ => HS.out _ P6.out.b Y6.out Z6.out) ?_
          clear hK Kc
          try simp only [List.getElem_toArray, List.getElem_cons_zero, List.getElem_cons_succ, Act.put, List.setIfInBounds_toArray, List.set_cons_zero, List.set_cons_succ]
          refine wpAnyN_next (i := 15) rfl (by kernel_rfl) (fun Kc hK => ?_)
          refine step_pushL (by rfl) _ _ _ (by rfl) w.heap.size 107 2 16 elem_print prE (some ⟨gs, 0, none⟩) k cs ((outs wvD wvF wvG rs k).map (·.2)) (by rfl) P6.out.s _ v.2 #[.int .u64 v.2.1, .int .u64 v.2.2] 107 (0, 0) (by rfl) nS8.out rfl rfl (one_print _) (by omega) zk zkm P6.out.e.size ?_
          intro S8 d8 w9 own9 hg9 old9
          have P7 := Lib.hid (P6.out.pushS own9 hg9 old9)
          have Y7 := Lib.hid (Y6.out.grown hg9 nYM.out.2)
          have Z7 := Lib.hid (Z6.out.grown hg9 nZM.out.2)
          refine hK.out _ _ (fun _ => HS.out _ P7.out.b Y7.out Z7.out) ?_
          clear hK Kc
          try simp only [List.getElem_toArray, List.getElem_cons_zero, List.getElem_cons_succ, Act.put, List.setIfInBounds_toArray, List.set_cons_zero, List.set_cons_succ]
          clear own8 own9 hg8 hg9 old8 old9 P4 P5 P6 Y4 Y5 Y6 Z4 Z5 Z6 P0 Y0 Z0 nR nS nS8 nSM
        case' g2p =>
          go_simp
          have P4 := Lib.hid (P0.out.alloc (.cells #[.int .u64 v.2.1, .int .u64 v.2.2] 107))
          have Y4 := Lib.hid (Y0.out.alloc (.cells #[.int .u64 v.2.1, .int .u64 v.2.2] 107))
          have Z4 := Lib.hid (Z0.out.alloc (.cells #[.int .u64 v.2.1, .int .u64 v.2.2] 107))
          refine hK.out _ _ (fun _ => HS.out _ P4.out.b Y4.out Z4.out) ?_
          clear hK Kc
          try simp only [List.getElem_toArray, List.getElem_cons_zero, List.getElem_cons_succ, Act.put, List.setIfInBounds_toArray, List.set_cons_zero, List.set_cons_succ]
          refine wpAnyN_next (i := 7) rfl (by kernel_rfl) (fun Kc hK => ?_)
          go_simp
          have P5 := Lib.hid (P4.out.alloc (.cells #[.int .u64 v.1.1, .int .u64 v.1.2] 107))
          have Y5 := Lib.hid (Y4.out.alloc (.cells #[.int .u64 v.1.1, .int .u64 v.1.2] 107))
          have Z5 := Lib.hid (Z4.out.alloc (.cells #[.int .u64 v.1.1, .int .u64 v.1.2] 107))
          refine hK.out _ _ (fun _ => HS.out _ P5.out.b Y5.out Z5.out) ?_
          clear hK Kc
          try simp only [List.getElem_toArray, List.getElem_cons_zero, List.getElem_cons_succ, Act.put, List.setIfInBounds_toArray, List.set_cons_zero, List.set_cons_succ]
          have nS := Lib.hid ((Blk.new w0 107 #[.int .u64 v.2.1, .int .u64 v.2.2]).alloc (.cells #[.int .u64 v.1.1, .int .u64 v.1.2] 107))
          have nR := Lib.hid (show Blk ((w0.alloc (.cells #[.int .u64 v.2.1, .int .u64 v.2.2] 107)).alloc (.cells #[.int .u64 v.1.1, .int .u64 v.1.2] 107)) (w0.heap.size + 1) 107 #[.int .u64 v.1.1, .int .u64 v.1.2] by
            have h := Blk.new (w0.alloc (.cells #[.int .u64 v.2.1, .int .u64 v.2.2] 107)) 107 #[.int .u64 v.1.1, .int .u64 v.1.2]
            rw [show (w0.alloc (.cells #[.int .u64 v.2.1, .int .u64 v.2.2] 107)).heap.size = w0.heap.size + 1 by simp] at h; exact h)
          have nSM := Lib.hid (show some (w0.heap.size) ≠ (Value.slice (some ⟨gm, 0, none⟩) k cm).ownBlock from fun e => by have := (P0.out.m.lt _ e.symm).2; omega)
          refine wpAnyN_next (i := 8) rfl (by kernel_rfl) (fun Kc hK => ?_)
          refine step_pushL (by rfl) _ _ _ (by rfl) w.heap.size 107 2 16 elem_print prE (some ⟨gm, 0, none⟩) k cm ((outs wvD wvF wvG rs k).map (·.1)) (by rfl) P5.out.m _ v.1 #[.int .u64 v.1.1, .int .u64 v.1.2] 107 (0, 0) (by rfl) nR.out rfl rfl (one_print _) (by omega) zk zkm P5.out.e.size ?_
          intro M8 c8 w8 own8 hg8 old8
          have nS8 := Lib.hid (nS.out.grown hg8 nSM.out)
          have P6 := Lib.hid (P5.out.pushM own8 hg8 old8)
          have Y6 := Lib.hid (Y5.out.grown hg8 nYM.out.1)
          have Z6 := Lib.hid (Z5.out.grown hg8 nZM.out.1)
          refine hK.out _ _ (fun _ => HS.out _ P6.out.b Y6.out Z6.out) ?_
          clear hK Kc
          try simp only [List.getElem_toArray, List.getElem_cons_zero, List.getElem_cons_succ, Act.put, List.setIfInBounds_toArray, List.set_cons_zero, List.set_cons_succ]
          refine wpAnyN_next (i := 15) rfl (by kernel_rfl) (fun Kc hK => ?_)
          refine step_pushL (by rfl) _ _ _ (by rfl) w.heap.size 107 2 16 elem_print prE (some ⟨gs, 0, none⟩) k cs ((outs wvD wvF wvG rs k).map (·.2)) (by rfl) P6.out.s _ v.2 #[.int .u64 v.2.1, .int .u64 v.2.2] 107 (0, 0) (by rfl) nS8.out rfl rfl (one_print _) (by omega) zk zkm P6.out.e.size ?_
          intro S8 d8 w9 own9 hg9 old9
          have P7 := Lib.hid (P6.out.pushS own9 hg9 old9)
          have Y7 := Lib.hid (Y6.out.grown hg9 nYM.out.2)
          have Z7 := Lib.hid (Z6.out.grown hg9 nZM.out.2)
          refine hK.out _ _ (fun _ => HS.out _ P7.out.b Y7.out Z7.out) ?_
          clear hK Kc
          try simp only [List.getElem_toArray, List.getElem_cons_zero, List.getElem_cons_succ, Act.put, List.setIfInBounds_toArray, List.set_cons_zero, List.set_cons_succ]
          clear own8 own9 hg8 hg9 old8 old9 P4 P5 P6 Y4 Y5 Y6 Z4 Z5 Z6 P0 Y0 Z0 nR nS nS8 nSM
        all_goals
          refine wpAnyN_next (i := 16) rfl (by kernel_rfl) (fun Kc hK => ?_)
          go_simp
          refine hK.out _ _ (fun _ => HS.out _ P7.out.b Y7.out Z7.out) ?_
          clear hK Kc
          try simp only [List.getElem_toArray, List.getElem_cons_zero, List.getElem_cons_succ, Act.put, List.setIfInBounds_toArray, List.set_cons_zero, List.set_cons_succ]
          refine wpAnyN_next (i := 17) rfl (by kernel_rfl) (fun Kc hK => ?_)
          go_simp
          refine hK.out _ _ (fun _ => HS.out _ P7.out.b Y7.out Z7.out) ?_
          clear hK Kc
          try simp only [List.getElem_toArray, List.getElem_cons_zero, List.getElem_cons_succ, Act.put, List.setIfInBounds_toArray, List.set_cons_zero, List.set_cons_succ]
          have x72 := P7.out.b.cell 2
          have x7f := P7.out.b.frozen 2
          refine wpAnyN_next (i := 18) rfl (by kernel_rfl) (fun Kc hK => ?_)
          go_simp
          refine hK.out _ _ (fun h => absurd h (by decide)) ?_
          clear hK Kc
          try simp only [List.getElem_toArray, List.getElem_cons_zero, List.getElem_cons_succ, Act.put, List.setIfInBounds_toArray, List.set_cons_zero, List.set_cons_succ]
          have P8 := Lib.hid (P7.out.setM (.slice M8 (k + 1) c8))
          refine wpAnyN_next (i := 19) rfl (by kernel_rfl) (fun Kc hK => ?_)
          go_simp
          refine hK.out _ _ (fun h => absurd h (by decide)) ?_
          clear hK Kc
          try simp only [List.getElem_toArray, List.getElem_cons_zero, List.getElem_cons_succ, Act.put, List.setIfInBounds_toArray, List.set_cons_zero, List.set_cons_succ]
          refine wpAnyN_next (i := 20) rfl (by kernel_rfl) (fun Kc hK => ?_)
          go_simp
          refine hK.out _ _ (fun h => absurd h (by decide)) ?_
          clear hK Kc
          try simp only [List.getElem_toArray, List.getElem_cons_zero, List.getElem_cons_succ, Act.put, List.setIfInBounds_toArray, List.set_cons_zero, List.set_cons_succ]
          have x83 := P8.out.b.cell 3
          have x8f := P8.out.b.frozen 3
          refine wpAnyN_next (i := 21) rfl (by kernel_rfl) (fun Kc hK => ?_)
          go_simp
          refine hK.out _ _ (fun h => absurd h (by decide)) ?_
          clear hK Kc
          try simp only [List.getElem_toArray, List.getElem_cons_zero, List.getElem_cons_succ, Act.put, List.setIfInBounds_toArray, List.set_cons_zero, List.set_cons_succ]
          refine wpAnyN_done (by kernel_rfl) ?_ _
          have P9 := Lib.hid (P8.out.setS (.slice S8 (k + 1) d8))
          clear P7 P8 x72 x7f x83 x8f HS Y7 Z7
          generalize ((w9.setCell ⟨B, 2, none⟩ (.slice M8 (k + 1) c8)).setCell ⟨B, 3, none⟩ (.slice S8 (k + 1) d8)) = wy at *
          go_wp2_with fail
          go_roundw
          case rel =>
            refine ⟨k + 1, M8, c8, S8, d8, by go_num, by omega, Lib.hid ?_⟩
            rw [HST.out, List.map_append, List.map_append]
            exact P9.out
          case measure => simp only [intOf]; omega

      case' neg =>
        obtain rfl : pb = false := by rw [← hpb]; simp [isP, h0]
        rcases HWF.out k x Gx.out with ⟨q, _⟩ | ⟨ch, hch, q, _, _⟩
        · exact absurd q h0
        have hvv : v = ((ch.toNat, ch.toNat), bp) := by
          rw [← hv]
          unfold fStep
          rw [if_neg h0, hF.out, q]
          have h1 : (97 : Int) ≤ ch.toNat ∧ (ch.toNat : Int) ≤ 100 := by simpa [letB] using hch
          show ((97 + (ch.toNat - 97), 97 + (ch.toNat - 97)), bp) = _
          rw [show 97 + (ch.toNat - 97) = ch.toNat by omega]
        have x0 : w6.cell? ⟨X, 0, none⟩ = some (.string ⟨#[ch]⟩) := by rw [X6.out.cell 0, ← q]; rfl
        have y0 : w6.cell? ⟨Y, 0, none⟩ = some (.int .u64 0) := by rw [Y6.out.cell 0]; rfl
        have y1 : w6.cell? ⟨Y, 1, none⟩ = some (.int .u64 0) := by rw [Y6.out.cell 1]; rfl
        have f0 := Y6.out.frozen 0
        have f1 := Y6.out.frozen 1
        have hs1 : (⟨#[ch]⟩ : ByteArray).size = 1 := rfl
        have hs2 : (⟨#[ch]⟩ : ByteArray)[0]'(by rw [hs1]; omega) = ch := rfl
        have uc : IntKind.u64.wrap (ch.toNat : Int) = (ch.toNat : Int) := by rw [IntKind.wrap_u64]; have := ch.toNat_lt; omega
        have P9a := P6.out.far (i := 0) (u := .int .u64 (ch.toNat : Int)) Y6.out (by omega) nYM.out.1 nYM.out.2
        have Y9a := Y6.out.set_ 0 (.int .u64 (ch.toNat : Int))
        have PP := Lib.hid (P9a.far (i := 1) (u := .int .u64 (ch.toNat : Int)) Y9a (by omega) nYM.out.1 nYM.out.2)
        have YY := Lib.hid (show Blk ((w6.setCell ⟨Y, 0, none⟩ (.int .u64 (ch.toNat : Int))).setCell ⟨Y, 1, none⟩ (.int .u64 (ch.toNat : Int))) Y 107 #[.int .u64 v.1.1, .int .u64 v.1.2] by rw [hvv]; exact Y9a.set_ 1 (.int .u64 (ch.toNat : Int)))
        have ZZ := Lib.hid (show Blk ((w6.setCell ⟨Y, 0, none⟩ (.int .u64 (ch.toNat : Int))).setCell ⟨Y, 1, none⟩ (.int .u64 (ch.toNat : Int))) Z 107 #[.int .u64 v.2.1, .int .u64 v.2.2] by
          rw [hvv]
          exact (Z6.out.far (p := ⟨Y, 0, none⟩) (by show Z ≠ Y; omega) _).far (p := ⟨Y, 1, none⟩) (by show Z ≠ Y; omega) _)
        clear P9a Y9a hvv
        go_wp2_with fail
        generalize ((w6.setCell ⟨Y, 0, none⟩ (.int .u64 (ch.toNat : Int))).setCell ⟨Y, 1, none⟩ (.int .u64 (ch.toNat : Int))) = w12 at *
        clear x0 y0 y1 f0 f1 uc P6 X6 Y6 Z6 h0 hpb

        have zk : (k + 1) * 16 ≤ 140737488355328 := by omega
        have zkm : k + 1 ≤ maxLen := by unfold maxLen; omega
        have HS := Lib.hid (show ∀ W, Blk W B 105 #[.slice (some ⟨gb, go_, none⟩) n c, .slice L n cl, .slice M k cm, .slice S k cs] → Blk W Y 107 #[.int .u64 v.1.1, .int .u64 v.1.2] → Blk W Z 107 #[.int .u64 v.2.1, .int .u64 v.2.2] → (W.cell? ⟨B, 2, none⟩ = some (.slice M k cm) ∧ W.cell? ⟨B, 3, none⟩ = some (.slice S k cs) ∧ W.cell? ⟨Y, 0, none⟩ = some (.int .u64 v.1.1) ∧ W.cell? ⟨Y, 1, none⟩ = some (.int .u64 v.1.2) ∧ W.cell? ⟨Z, 0, none⟩ = some (.int .u64 v.2.1) ∧ W.cell? ⟨Z, 1, none⟩ = some (.int .u64 v.2.2)) from fun W h1 h2 h3 => ⟨h1.cell 2, h1.cell 3, h2.cell 0, h2.cell 1, h3.cell 0, h3.cell 1⟩)
        refine wp_region_N (fun _ => True) [] (by kernel_rfl) ?_
        refine wpAnyN_take (i := 1) (v := ?_) rfl (by kernel_rfl) (fun _ _ _ h => h) (by rfl) (fun W hW => ?_) trivial ?_
        rotate_left
        · go_simp
          try with_reducible rfl
        try simp only [List.getElem_toArray, List.getElem_cons_zero, List.getElem_cons_succ, Act.put, List.setIfInBounds_toArray, List.set_cons_zero, List.set_cons_succ]
        refine wpAnyN_T _ (wpAny_of_N (S := fun W => W.cell? ⟨B, 2, none⟩ = some (.slice M k cm) ∧ W.cell? ⟨B, 3, none⟩ = some (.slice S k cs) ∧ W.cell? ⟨Y, 0, none⟩ = some (.int .u64 v.1.1) ∧ W.cell? ⟨Y, 1, none⟩ = some (.int .u64 v.1.2) ∧ W.cell? ⟨Z, 0, none⟩ = some (.int .u64 v.2.1) ∧ W.cell? ⟨Z, 1, none⟩ = some (.int .u64 v.2.2)) (N := [18, 19, 20, 21]) _ _ _ _ ?_)
        have P0 := Lib.hid (PP.out.next (Below.refl _ _).drew)
        have Y0 := Lib.hid (YY.out.next (Below.refl _ _).drew)
        have Z0 := Lib.hid (ZZ.out.next (Below.refl _ _).drew)
        have hS0 := HS.out _ P0.out.b Y0.out Z0.out
        generalize w12.drew = w0 at *
        clear PP YY ZZ
        refine wpAnyN_take (i := 0) (v := ?_) rfl (by kernel_rfl) (fun _ _ _ h => h) (by rfl) (fun W hW => ?_) hS0 ?_
        rotate_left
        · obtain ⟨z0, z1, z2, z3, z4, z5⟩ := hW
          go_simp
          try with_reducible rfl
        try simp only [List.getElem_toArray, List.getElem_cons_zero, List.getElem_cons_succ, Act.put, List.setIfInBounds_toArray, List.set_cons_zero, List.set_cons_succ]
        refine wpAnyN_take (i := 2) (v := ?_) rfl (by kernel_rfl) (fun _ _ _ h => h) (by rfl) (fun W hW => ?_) hS0 ?_
        rotate_left
        · obtain ⟨z0, z1, z2, z3, z4, z5⟩ := hW
          go_simp
          try with_reducible rfl
        try simp only [List.getElem_toArray, List.getElem_cons_zero, List.getElem_cons_succ, Act.put, List.setIfInBounds_toArray, List.set_cons_zero, List.set_cons_succ]
        refine wpAnyN_take (i := 3) (v := ?_) rfl (by kernel_rfl) (fun _ _ _ h => h) (by rfl) (fun W hW => ?_) hS0 ?_
        rotate_left
        · obtain ⟨z0, z1, z2, z3, z4, z5⟩ := hW
          go_simp
          try with_reducible rfl
        try simp only [List.getElem_toArray, List.getElem_cons_zero, List.getElem_cons_succ, Act.put, List.setIfInBounds_toArray, List.set_cons_zero, List.set_cons_succ]
        refine wpAnyN_take (i := 4) (v := ?_) rfl (by kernel_rfl) (fun _ _ _ h => h) (by rfl) (fun W hW => ?_) hS0 ?_
        rotate_left
        · obtain ⟨z0, z1, z2, z3, z4, z5⟩ := hW
          go_simp
          try with_reducible rfl
        try simp only [List.getElem_toArray, List.getElem_cons_zero, List.getElem_cons_succ, Act.put, List.setIfInBounds_toArray, List.set_cons_zero, List.set_cons_succ]
        refine wpAnyN_take (i := 5) (v := ?_) rfl (by kernel_rfl) (fun _ _ _ h => h) (by rfl) (fun W hW => ?_) hS0 ?_
        rotate_left
        · obtain ⟨z0, z1, z2, z3, z4, z5⟩ := hW
          go_simp
          try with_reducible rfl
        try simp only [List.getElem_toArray, List.getElem_cons_zero, List.getElem_cons_succ, Act.put, List.setIfInBounds_toArray, List.set_cons_zero, List.set_cons_succ]
        refine wpAnyN_take (i := 6) (v := ?_) rfl (by kernel_rfl) (fun _ _ _ h => h) (by rfl) (fun W hW => ?_) hS0 ?_
        rotate_left
        · obtain ⟨z0, z1, z2, z3, z4, z5⟩ := hW
          go_simp
          try with_reducible rfl
        try simp only [List.getElem_toArray, List.getElem_cons_zero, List.getElem_cons_succ, Act.put, List.setIfInBounds_toArray, List.set_cons_zero, List.set_cons_succ]
        refine wpAnyN_take (i := 9) (v := ?_) rfl (by kernel_rfl) (fun _ _ _ h => h) (by rfl) (fun W hW => ?_) hS0 ?_
        rotate_left
        · obtain ⟨z0, z1, z2, z3, z4, z5⟩ := hW
          go_simp
          try with_reducible rfl
        try simp only [List.getElem_toArray, List.getElem_cons_zero, List.getElem_cons_succ, Act.put, List.setIfInBounds_toArray, List.set_cons_zero, List.set_cons_succ]
        refine wpAnyN_take (i := 10) (v := ?_) rfl (by kernel_rfl) (fun _ _ _ h => h) (by rfl) (fun W hW => ?_) hS0 ?_
        rotate_left
        · obtain ⟨z0, z1, z2, z3, z4, z5⟩ := hW
          go_simp
          try with_reducible rfl
        try simp only [List.getElem_toArray, List.getElem_cons_zero, List.getElem_cons_succ, Act.put, List.setIfInBounds_toArray, List.set_cons_zero, List.set_cons_succ]
        refine wpAnyN_take (i := 11) (v := ?_) rfl (by kernel_rfl) (fun _ _ _ h => h) (by rfl) (fun W hW => ?_) hS0 ?_
        rotate_left
        · obtain ⟨z0, z1, z2, z3, z4, z5⟩ := hW
          go_simp
          try with_reducible rfl
        try simp only [List.getElem_toArray, List.getElem_cons_zero, List.getElem_cons_succ, Act.put, List.setIfInBounds_toArray, List.set_cons_zero, List.set_cons_succ]
        refine wpAnyN_take (i := 12) (v := ?_) rfl (by kernel_rfl) (fun _ _ _ h => h) (by rfl) (fun W hW => ?_) hS0 ?_
        rotate_left
        · obtain ⟨z0, z1, z2, z3, z4, z5⟩ := hW
          go_simp
          try with_reducible rfl
        try simp only [List.getElem_toArray, List.getElem_cons_zero, List.getElem_cons_succ, Act.put, List.setIfInBounds_toArray, List.set_cons_zero, List.set_cons_succ]
        refine wpAnyN_take (i := 13) (v := ?_) rfl (by kernel_rfl) (fun _ _ _ h => h) (by rfl) (fun W hW => ?_) hS0 ?_
        rotate_left
        · obtain ⟨z0, z1, z2, z3, z4, z5⟩ := hW
          go_simp
          try with_reducible rfl
        try simp only [List.getElem_toArray, List.getElem_cons_zero, List.getElem_cons_succ, Act.put, List.setIfInBounds_toArray, List.set_cons_zero, List.set_cons_succ]
        clear hS0
        refine wpAnyN_two (i := 7) (j := 14) rfl rfl (by kernel_rfl) (fun Kc hK => ?g1n) (fun Kc hK => ?g2n)
        case' g1n =>
          go_simp
          have P4 := Lib.hid (P0.out.alloc (.cells #[.int .u64 v.1.1, .int .u64 v.1.2] 107))
          have Y4 := Lib.hid (Y0.out.alloc (.cells #[.int .u64 v.1.1, .int .u64 v.1.2] 107))
          have Z4 := Lib.hid (Z0.out.alloc (.cells #[.int .u64 v.1.1, .int .u64 v.1.2] 107))
          refine hK.out _ _ (fun _ => HS.out _ P4.out.b Y4.out Z4.out) ?_
          clear hK Kc
          try simp only [List.getElem_toArray, List.getElem_cons_zero, List.getElem_cons_succ, Act.put, List.setIfInBounds_toArray, List.set_cons_zero, List.set_cons_succ]
          refine wpAnyN_two (i := 8) (j := 14) rfl rfl (by kernel_rfl) (fun Kc hK => ?g3n) (fun Kc hK => ?g4n)
        case' g3n =>
          refine step_pushL (by rfl) _ _ _ (by rfl) w.heap.size 107 2 16 elem_print prE M k cm ((outs wvD wvF wvG rs k).map (·.1)) (by rfl) P4.out.m _ v.1 #[.int .u64 v.1.1, .int .u64 v.1.2] 107 (0, 0) (by rfl) (heap_alloc_new _ _) rfl rfl (one_print _) (by omega) zk zkm P4.out.e.size ?_
          intro M8 c8 w8 own8 hg8 old8
          have P5 := Lib.hid (P4.out.pushM own8 hg8 old8)
          have Y5 := Lib.hid (Y4.out.grown hg8 nYM.out.1)
          have Z5 := Lib.hid (Z4.out.grown hg8 nZM.out.1)
          refine hK.out _ _ (fun _ => HS.out _ P5.out.b Y5.out Z5.out) ?_
          clear hK Kc
          try simp only [List.getElem_toArray, List.getElem_cons_zero, List.getElem_cons_succ, Act.put, List.setIfInBounds_toArray, List.set_cons_zero, List.set_cons_succ]
          refine wpAnyN_next (i := 14) rfl (by kernel_rfl) (fun Kc hK => ?_)
          go_simp
          have P6 := Lib.hid (P5.out.alloc (.cells #[.int .u64 v.2.1, .int .u64 v.2.2] 107))
          have Y6 := Lib.hid (Y5.out.alloc (.cells #[.int .u64 v.2.1, .int .u64 v.2.2] 107))
          have Z6 := Lib.hid (Z5.out.alloc (.cells #[.int .u64 v.2.1, .int .u64 v.2.2] 107))
          refine hK.out _ _ (fun _ => HS.out _ P6.out.b Y6.out Z6.out) ?_
          clear hK Kc
          try simp only [List.getElem_toArray, List.getElem_cons_zero, List.getElem_cons_succ, Act.put, List.setIfInBounds_toArray, List.set_cons_zero, List.set_cons_succ]
          refine wpAnyN_next (i := 15) rfl (by kernel_rfl) (fun Kc hK => ?_)
          refine step_pushL (by rfl) _ _ _ (by rfl) w.heap.size 107 2 16 elem_print prE S k cs ((outs wvD wvF wvG rs k).map (·.2)) (by rfl) P6.out.s _ v.2 #[.int .u64 v.2.1, .int .u64 v.2.2] 107 (0, 0) (by rfl) (heap_alloc_new _ _) rfl rfl (one_print _) (by omega) zk zkm P6.out.e.size ?_
          intro S8 d8 w9 own9 hg9 old9
          have P7 := Lib.hid (P6.out.pushS own9 hg9 old9)
          have Y7 := Lib.hid (Y6.out.grown hg9 nYM.out.2)
          have Z7 := Lib.hid (Z6.out.grown hg9 nZM.out.2)
          refine hK.out _ _ (fun _ => HS.out _ P7.out.b Y7.out Z7.out) ?_
          clear hK Kc
          try simp only [List.getElem_toArray, List.getElem_cons_zero, List.getElem_cons_succ, Act.put, List.setIfInBounds_toArray, List.set_cons_zero, List.set_cons_succ]
          clear own8 own9 hg8 hg9 old8 old9 P4 P5 P6 Y4 Y5 Y6 Z4 Z5 Z6 P0 Y0 Z0
        case' g4n =>
          go_simp
          have P5 := Lib.hid (P4.out.alloc (.cells #[.int .u64 v.2.1, .int .u64 v.2.2] 107))
          have Y5 := Lib.hid (Y4.out.alloc (.cells #[.int .u64 v.2.1, .int .u64 v.2.2] 107))
          have Z5 := Lib.hid (Z4.out.alloc (.cells #[.int .u64 v.2.1, .int .u64 v.2.2] 107))
          refine hK.out _ _ (fun _ => HS.out _ P5.out.b Y5.out Z5.out) ?_
          clear hK Kc
          try simp only [List.getElem_toArray, List.getElem_cons_zero, List.getElem_cons_succ, Act.put, List.setIfInBounds_toArray, List.set_cons_zero, List.set_cons_succ]
          have nR := Lib.hid ((Blk.new w0 107 #[.int .u64 v.1.1, .int .u64 v.1.2]).alloc (.cells #[.int .u64 v.2.1, .int .u64 v.2.2] 107))
          have nS := Lib.hid (show Blk ((w0.alloc (.cells #[.int .u64 v.1.1, .int .u64 v.1.2] 107)).alloc (.cells #[.int .u64 v.2.1, .int .u64 v.2.2] 107)) (w0.heap.size + 1) 107 #[.int .u64 v.2.1, .int .u64 v.2.2] by
            have h := Blk.new (w0.alloc (.cells #[.int .u64 v.1.1, .int .u64 v.1.2] 107)) 107 #[.int .u64 v.2.1, .int .u64 v.2.2]
            rw [show (w0.alloc (.cells #[.int .u64 v.1.1, .int .u64 v.1.2] 107)).heap.size = w0.heap.size + 1 by simp] at h; exact h)
          have nSM := Lib.hid (show some (w0.heap.size + 1) ≠ (Value.slice M k cm).ownBlock from fun e => by have := (P0.out.m.lt _ e.symm).2; omega)
          refine wpAnyN_next (i := 8) rfl (by kernel_rfl) (fun Kc hK => ?_)
          refine step_pushL (by rfl) _ _ _ (by rfl) w.heap.size 107 2 16 elem_print prE M k cm ((outs wvD wvF wvG rs k).map (·.1)) (by rfl) P5.out.m _ v.1 #[.int .u64 v.1.1, .int .u64 v.1.2] 107 (0, 0) (by rfl) nR.out rfl rfl (one_print _) (by omega) zk zkm P5.out.e.size ?_
          intro M8 c8 w8 own8 hg8 old8
          have nS8 := Lib.hid (nS.out.grown hg8 nSM.out)
          have P6 := Lib.hid (P5.out.pushM own8 hg8 old8)
          have Y6 := Lib.hid (Y5.out.grown hg8 nYM.out.1)
          have Z6 := Lib.hid (Z5.out.grown hg8 nZM.out.1)
          refine hK.out _ _ (fun _ => HS.out _ P6.out.b Y6.out Z6.out) ?_
          clear hK Kc
          try simp only [List.getElem_toArray, List.getElem_cons_zero, List.getElem_cons_succ, Act.put, List.setIfInBounds_toArray, List.set_cons_zero, List.set_cons_succ]
          refine wpAnyN_next (i := 15) rfl (by kernel_rfl) (fun Kc hK => ?_)
          refine step_pushL (by rfl) _ _ _ (by rfl) w.heap.size 107 2 16 elem_print prE S k cs ((outs wvD wvF wvG rs k).map (·.2)) (by rfl) P6.out.s _ v.2 #[.int .u64 v.2.1, .int .u64 v.2.2] 107 (0, 0) (by rfl) nS8.out rfl rfl (one_print _) (by omega) zk zkm P6.out.e.size ?_
          intro S8 d8 w9 own9 hg9 old9
          have P7 := Lib.hid (P6.out.pushS own9 hg9 old9)
          have Y7 := Lib.hid (Y6.out.grown hg9 nYM.out.2)
          have Z7 := Lib.hid (Z6.out.grown hg9 nZM.out.2)
          refine hK.out _ _ (fun _ => HS.out _ P7.out.b Y7.out Z7.out) ?_
          clear hK Kc
          try simp only [List.getElem_toArray, List.getElem_cons_zero, List.getElem_cons_succ, Act.put, List.setIfInBounds_toArray, List.set_cons_zero, List.set_cons_succ]
          clear own8 own9 hg8 hg9 old8 old9 P4 P5 P6 Y4 Y5 Y6 Z4 Z5 Z6 P0 Y0 Z0 nR nS nS8 nSM
        case' g2n =>
          go_simp
          have P4 := Lib.hid (P0.out.alloc (.cells #[.int .u64 v.2.1, .int .u64 v.2.2] 107))
          have Y4 := Lib.hid (Y0.out.alloc (.cells #[.int .u64 v.2.1, .int .u64 v.2.2] 107))
          have Z4 := Lib.hid (Z0.out.alloc (.cells #[.int .u64 v.2.1, .int .u64 v.2.2] 107))
          refine hK.out _ _ (fun _ => HS.out _ P4.out.b Y4.out Z4.out) ?_
          clear hK Kc
          try simp only [List.getElem_toArray, List.getElem_cons_zero, List.getElem_cons_succ, Act.put, List.setIfInBounds_toArray, List.set_cons_zero, List.set_cons_succ]
          refine wpAnyN_next (i := 7) rfl (by kernel_rfl) (fun Kc hK => ?_)
          go_simp
          have P5 := Lib.hid (P4.out.alloc (.cells #[.int .u64 v.1.1, .int .u64 v.1.2] 107))
          have Y5 := Lib.hid (Y4.out.alloc (.cells #[.int .u64 v.1.1, .int .u64 v.1.2] 107))
          have Z5 := Lib.hid (Z4.out.alloc (.cells #[.int .u64 v.1.1, .int .u64 v.1.2] 107))
          refine hK.out _ _ (fun _ => HS.out _ P5.out.b Y5.out Z5.out) ?_
          clear hK Kc
          try simp only [List.getElem_toArray, List.getElem_cons_zero, List.getElem_cons_succ, Act.put, List.setIfInBounds_toArray, List.set_cons_zero, List.set_cons_succ]
          have nS := Lib.hid ((Blk.new w0 107 #[.int .u64 v.2.1, .int .u64 v.2.2]).alloc (.cells #[.int .u64 v.1.1, .int .u64 v.1.2] 107))
          have nR := Lib.hid (show Blk ((w0.alloc (.cells #[.int .u64 v.2.1, .int .u64 v.2.2] 107)).alloc (.cells #[.int .u64 v.1.1, .int .u64 v.1.2] 107)) (w0.heap.size + 1) 107 #[.int .u64 v.1.1, .int .u64 v.1.2] by
            have h := Blk.new (w0.alloc (.cells #[.int .u64 v.2.1, .int .u64 v.2.2] 107)) 107 #[.int .u64 v.1.1, .int .u64 v.1.2]
            rw [show (w0.alloc (.cells #[.int .u64 v.2.1, .int .u64 v.2.2] 107)).heap.size = w0.heap.size + 1 by simp] at h; exact h)
          have nSM := Lib.hid (show some (w0.heap.size) ≠ (Value.slice M k cm).ownBlock from fun e => by have := (P0.out.m.lt _ e.symm).2; omega)
          refine wpAnyN_next (i := 8) rfl (by kernel_rfl) (fun Kc hK => ?_)
          refine step_pushL (by rfl) _ _ _ (by rfl) w.heap.size 107 2 16 elem_print prE M k cm ((outs wvD wvF wvG rs k).map (·.1)) (by rfl) P5.out.m _ v.1 #[.int .u64 v.1.1, .int .u64 v.1.2] 107 (0, 0) (by rfl) nR.out rfl rfl (one_print _) (by omega) zk zkm P5.out.e.size ?_
          intro M8 c8 w8 own8 hg8 old8
          have nS8 := Lib.hid (nS.out.grown hg8 nSM.out)
          have P6 := Lib.hid (P5.out.pushM own8 hg8 old8)
          have Y6 := Lib.hid (Y5.out.grown hg8 nYM.out.1)
          have Z6 := Lib.hid (Z5.out.grown hg8 nZM.out.1)
          refine hK.out _ _ (fun _ => HS.out _ P6.out.b Y6.out Z6.out) ?_
          clear hK Kc
          try simp only [List.getElem_toArray, List.getElem_cons_zero, List.getElem_cons_succ, Act.put, List.setIfInBounds_toArray, List.set_cons_zero, List.set_cons_succ]
          refine wpAnyN_next (i := 15) rfl (by kernel_rfl) (fun Kc hK => ?_)
          refine step_pushL (by rfl) _ _ _ (by rfl) w.heap.size 107 2 16 elem_print prE S k cs ((outs wvD wvF wvG rs k).map (·.2)) (by rfl) P6.out.s _ v.2 #[.int .u64 v.2.1, .int .u64 v.2.2] 107 (0, 0) (by rfl) nS8.out rfl rfl (one_print _) (by omega) zk zkm P6.out.e.size ?_
          intro S8 d8 w9 own9 hg9 old9
          have P7 := Lib.hid (P6.out.pushS own9 hg9 old9)
          have Y7 := Lib.hid (Y6.out.grown hg9 nYM.out.2)
          have Z7 := Lib.hid (Z6.out.grown hg9 nZM.out.2)
          refine hK.out _ _ (fun _ => HS.out _ P7.out.b Y7.out Z7.out) ?_
          clear hK Kc
          try simp only [List.getElem_toArray, List.getElem_cons_zero, List.getElem_cons_succ, Act.put, List.setIfInBounds_toArray, List.set_cons_zero, List.set_cons_succ]
          clear own8 own9 hg8 hg9 old8 old9 P4 P5 P6 Y4 Y5 Y6 Z4 Z5 Z6 P0 Y0 Z0 nR nS nS8 nSM
        all_goals
          refine wpAnyN_next (i := 16) rfl (by kernel_rfl) (fun Kc hK => ?_)
          go_simp
          refine hK.out _ _ (fun _ => HS.out _ P7.out.b Y7.out Z7.out) ?_
          clear hK Kc
          try simp only [List.getElem_toArray, List.getElem_cons_zero, List.getElem_cons_succ, Act.put, List.setIfInBounds_toArray, List.set_cons_zero, List.set_cons_succ]
          refine wpAnyN_next (i := 17) rfl (by kernel_rfl) (fun Kc hK => ?_)
          go_simp
          refine hK.out _ _ (fun _ => HS.out _ P7.out.b Y7.out Z7.out) ?_
          clear hK Kc
          try simp only [List.getElem_toArray, List.getElem_cons_zero, List.getElem_cons_succ, Act.put, List.setIfInBounds_toArray, List.set_cons_zero, List.set_cons_succ]
          have x72 := P7.out.b.cell 2
          have x7f := P7.out.b.frozen 2
          refine wpAnyN_next (i := 18) rfl (by kernel_rfl) (fun Kc hK => ?_)
          go_simp
          refine hK.out _ _ (fun h => absurd h (by decide)) ?_
          clear hK Kc
          try simp only [List.getElem_toArray, List.getElem_cons_zero, List.getElem_cons_succ, Act.put, List.setIfInBounds_toArray, List.set_cons_zero, List.set_cons_succ]
          have P8 := Lib.hid (P7.out.setM (.slice M8 (k + 1) c8))
          refine wpAnyN_next (i := 19) rfl (by kernel_rfl) (fun Kc hK => ?_)
          go_simp
          refine hK.out _ _ (fun h => absurd h (by decide)) ?_
          clear hK Kc
          try simp only [List.getElem_toArray, List.getElem_cons_zero, List.getElem_cons_succ, Act.put, List.setIfInBounds_toArray, List.set_cons_zero, List.set_cons_succ]
          refine wpAnyN_next (i := 20) rfl (by kernel_rfl) (fun Kc hK => ?_)
          go_simp
          refine hK.out _ _ (fun h => absurd h (by decide)) ?_
          clear hK Kc
          try simp only [List.getElem_toArray, List.getElem_cons_zero, List.getElem_cons_succ, Act.put, List.setIfInBounds_toArray, List.set_cons_zero, List.set_cons_succ]
          have x83 := P8.out.b.cell 3
          have x8f := P8.out.b.frozen 3
          refine wpAnyN_next (i := 21) rfl (by kernel_rfl) (fun Kc hK => ?_)
          go_simp
          refine hK.out _ _ (fun h => absurd h (by decide)) ?_
          clear hK Kc
          try simp only [List.getElem_toArray, List.getElem_cons_zero, List.getElem_cons_succ, Act.put, List.setIfInBounds_toArray, List.set_cons_zero, List.set_cons_succ]
          refine wpAnyN_done (by kernel_rfl) ?_ _
          have P9 := Lib.hid (P8.out.setS (.slice S8 (k + 1) d8))
          clear P7 P8 x72 x7f x83 x8f HS Y7 Z7
          generalize ((w9.setCell ⟨B, 2, none⟩ (.slice M8 (k + 1) c8)).setCell ⟨B, 3, none⟩ (.slice S8 (k + 1) d8)) = wy at *
          go_wp2_with fail
          go_roundw
          case rel =>
            refine ⟨k + 1, M8, c8, S8, d8, by go_num, by omega, Lib.hid ?_⟩
            rw [HST.out, List.map_append, List.map_append]
            exact P9.out
          case measure => simp only [intOf]; omega

    · obtain rfl : k = n := by omega
      have k1 : ¬ (k : Int) < (k : Int) := by omega
      have ha : outs wvD wvF wvG rs k = wvAll rs := outs_all wvD wvF wvG rs k (by omega)
      rw [ha] at P
      go_wp2_with fail
      go_ret2
      exact ⟨B, rfl, L, cl, M, cm, S, cs, P.out⟩
end Go.Proofs.Ytajfjgemfnfakaa


/-
  The rules that are met when the last rule is taken apart for a part of its word: (Grammar).pieces, by the contract of the function that it is handed.
-/
namespace Go.Proofs.Ytajfjgemfnfakaa
open Go.RowKit

theorem Rd.i64 {w : World} {B n : Nat} {A : Option Addr} {xs : List Int} {k : Nat} (h : Rd w B A n 1 intE xs) (hk : k < n) :
    ∃ b o, A = some ⟨b, o, none⟩ ∧ b < B ∧ w.cell? ⟨b, o + k, none⟩ = some (.int .i64 (xs.getD k 0)) := by
  obtain ⟨b, o, hA, hb, x, hx, hc⟩ := h.at_ hk
  refine ⟨b, o, hA, hb, ?_⟩
  have := hc 0 _ rfl
  rw [List.getD_eq_getElem?_getD, hx]
  simpa using this
/-- the rules that are met -/
def pcs (ls : List Int) (rs : List Fac) (i j : Int) : Nat → Nat → Int → List Nat
  | 0, _, _ => []
  | f + 1, r, a =>
    if a + ls.getD r 0 ≤ i then [] else if j ≤ a then [] else if i ≤ a ∧ a + ls.getD r 0 ≤ j then [r] else
    match rs[r]? with
    | none => []
    | some x => pcs ls rs i j f x.a.toNat a ++ pcs ls rs i j f x.b.toNat (a + ls.getD x.a.toNat 0)
theorem pcs_out1 {ls : List Int} {rs : List Fac} {i j : Int} {f r : Nat} {a : Int} (h : a + ls.getD r 0 ≤ i) : pcs ls rs i j f r a = [] := by
  cases f with
  | zero => rfl
  | succ f => rw [pcs, if_pos h]
theorem pcs_out2 {ls : List Int} {rs : List Fac} {i j : Int} {f r : Nat} {a : Int} (h : j ≤ a) : pcs ls rs i j f r a = [] := by
  cases f with
  | zero => rfl
  | succ f => rw [pcs, if_pos h]; split <;> rfl
theorem pcs_in {ls : List Int} {rs : List Fac} {i j : Int} {f r : Nat} {a : Int} (hf : r < f) (h1 : ¬ a + ls.getD r 0 ≤ i) (h2 : ¬ j ≤ a) (h3 : i ≤ a) (h4 : a + ls.getD r 0 ≤ j) : pcs ls rs i j f r a = [r] := by
  obtain ⟨g, rfl⟩ : ∃ g, f = g + 1 := ⟨f - 1, by omega⟩
  rw [pcs, if_neg h1, if_neg h2, if_pos ⟨h3, h4⟩]
theorem pcs_go {ls : List Int} {rs : List Fac} {i j : Int} {f r : Nat} {a : Int} {x : Fac} (hf : r < f) (h1 : ¬ a + ls.getD r 0 ≤ i) (h2 : ¬ j ≤ a) (h3 : ¬ (i ≤ a ∧ a + ls.getD r 0 ≤ j)) (hx : rs[r]? = some x) :
    pcs ls rs i j f r a = pcs ls rs i j (f - 1) x.a.toNat a ++ pcs ls rs i j (f - 1) x.b.toNat (a + ls.getD x.a.toNat 0) := by
  obtain ⟨g, rfl⟩ : ∃ g, f = g + 1 := ⟨f - 1, by omega⟩
  rw [pcs, if_neg h1, if_neg h2, if_neg h3, hx]
  rfl
theorem pcs_fuel {ls : List Int} {rs : List Fac} {i j : Int} (hls : gLens rs [] = some ls) : ∀ {r f g : Nat} {a : Int}, r < f → r < g → pcs ls rs i j f r a = pcs ls rs i j g r a := by
  intro r
  induction r using Nat.strongRecOn with
  | ind r ih =>
    intro f g a hf hg
    by_cases h1 : a + ls.getD r 0 ≤ i
    · rw [pcs_out1 h1, pcs_out1 h1]
    by_cases h2 : j ≤ a
    · rw [pcs_out2 h2, pcs_out2 h2]
    by_cases h3 : i ≤ a ∧ a + ls.getD r 0 ≤ j
    · rw [pcs_in hf h1 h2 h3.1 h3.2, pcs_in hg h1 h2 h3.1 h3.2]
    rcases hx : rs[r]? with _ | x
    · obtain ⟨f', rfl⟩ : ∃ f', f = f' + 1 := ⟨f - 1, by omega⟩
      obtain ⟨g', rfl⟩ : ∃ g', g = g' + 1 := ⟨g - 1, by omega⟩
      rw [pcs, pcs, if_neg h1, if_neg h1, if_neg h2, if_neg h2, if_neg h3, if_neg h3, hx]
    · rcases wf_of hls r x hx with ⟨h0, ha0, ha1, hb0, hb1⟩ | ⟨cc, _, hxl, hxa, hxb⟩
      · rw [pcs_go hf h1 h2 h3 hx, pcs_go hg h1 h2 h3 hx, ih x.a.toNat (by omega) (f := f - 1) (g := g - 1) (by omega) (by omega), ih x.b.toNat (by omega) (f := f - 1) (g := g - 1) (by omega) (by omega)]
      · exfalso
        have h0 : x.l.size ≠ 0 := by rw [hxl]; show (1 : Nat) ≠ 0; omega
        have := lens_let hls hx h0
        apply h3
        omega
def takeV (b0 : Nat) : Value := .func (.func 78) #[] #[.pointer (some ⟨b0 + 1, 0, none⟩), .pointer (some ⟨b0 + 2, 0, none⟩), .pointer (some ⟨b0 + 3, 0, none⟩), .pointer (some ⟨b0 + 4, 0, none⟩), .pointer (some ⟨b0, 0, none⟩), .pointer (some ⟨b0 + 5, 0, none⟩)]
/-- the boxes of 'pieces', and the lists that it reads -/
def PEnv (B b0 : Nat) (A : Option Addr) (n c : Nat) (rs : List Fac) (A2 : Option Addr) (c2 : Nat) (ls : List Int) (i j : Int) (fp : Nat) (cp : Array Value) (w : World) : Prop :=
  Blk w b0 26 #[.slice A n c] ∧ Blk w (b0 + 1) 55 #[.slice A2 n c2] ∧ Blk w (b0 + 2) 2 #[.int .i64 i] ∧ Blk w (b0 + 3) 2 #[.int .i64 j] ∧
    Blk w (b0 + 4) 114 #[.func (.func fp) #[] cp] ∧ Blk w (b0 + 5) 117 #[takeV b0] ∧ Rd w B A n 3 Fac.cells rs ∧ Rd w B A2 n 1 intE ls
section
variable {B b0 : Nat} {A : Option Addr} {n c : Nat} {rs : List Fac} {A2 : Option Addr} {c2 : Nat} {ls : List Int} {i j : Int} {fp : Nat} {cp : Array Value} {w w' : World}
theorem PEnv.next (h : PEnv B b0 A n c rs A2 c2 ls i j fp cp w) (hB : B ≤ b0) (hb : Below w.heap.size w w') : PEnv B b0 A n c rs A2 c2 ls i j fp cp w' := by
  obtain ⟨h0, h1, h2, h3, h4, h5, h6, h7⟩ := h
  have := h0.lt
  exact ⟨h0.next hb, h1.next hb, h2.next hb, h3.next hb, h4.next hb, h5.next hb, h6.next' (by omega) hb, h7.next' (by omega) hb⟩
theorem PEnv.grown {ob : Nat} (h : PEnv B b0 A n c rs A2 c2 ls i j fp cp w) (hB : B ≤ ob) (ho : ob < b0) (hb : w.grownBy w' (some ob)) : PEnv B b0 A n c rs A2 c2 ls i j fp cp w' := by
  obtain ⟨h0, h1, h2, h3, h4, h5, h6, h7⟩ := h
  have := h0.lt
  have ne : ∀ k, b0 ≤ k → some k ≠ some ob := fun k hk e => by injection e with e; omega
  exact ⟨h0.grown hb (ne _ (by omega)), h1.grown hb (ne _ (by omega)), h2.grown hb (ne _ (by omega)), h3.grown hb (ne _ (by omega)), h4.grown hb (ne _ (by omega)), h5.grown hb (ne _ (by omega)),
    h6.grown (by omega) hb (fun k hk => by injection hk with hk; omega), h7.grown (by omega) hb (fun k hk => by injection hk with hk; omega)⟩
end
section
variable {S : Type} (Inv : S → World → Prop) (step : S → Nat → S) (hI : ∀ s w w', Inv s w → Below w.heap.size w w' → Inv s w') (B ob b0 : Nat) (hBo : B ≤ ob) (hob : ob < b0) (A : Option Addr) (n c : Nat) (rs : List Fac) (A2 : Option Addr) (c2 : Nat) (ls : List Int) (i j : Int)
  (fp : Nat) (ep : EnterOk fp) (cp : Array Value) (hn : n ≤ 1048576) (hls : gLens rs [] = some ls)
  (hW : ∀ (s : S) (k : Nat) (w : World), k < n → Inv s w → Calls Try.prog fp (#[.int .i64 (k : Int)] ++ cp) w (fun e w' => e = .returned (.tuple #[]) ∧ w.grownBy w' (some ob) ∧ Inv (step s k) w'))
include hI hBo hob ep hn hls hW
omit hn in
set_option maxHeartbeats 1000000 in
set_option maxRecDepth 100000 in
theorem take_any : ∀ (r : Nat) (a : Int) (s : S) (w : World), r < n → 0 ≤ a → a + ls.getD r 0 ≤ 1000000000000000 → PEnv B b0 A n c rs A2 c2 ls i j fp cp w → Inv s w →
    Calls Try.prog 78 #[.int .i64 (r : Int), .int .i64 a, .pointer (some ⟨b0 + 1, 0, none⟩), .pointer (some ⟨b0 + 2, 0, none⟩), .pointer (some ⟨b0 + 3, 0, none⟩), .pointer (some ⟨b0 + 4, 0, none⟩), .pointer (some ⟨b0, 0, none⟩), .pointer (some ⟨b0 + 5, 0, none⟩)] w
      (fun e w' => e = .returned (.tuple #[]) ∧ w.grownBy w' (some ob) ∧ Inv ((pcs ls rs i j (r + 1) r a).foldl step s) w') := by
  intro r
  induction r using Nat.strongRecOn with
  | ind r ih =>
    intro a s w hr ha ha2 hE hS
    have IH := Lib.hid ih; clear ih
    have HW := Lib.hid hW
    have HI := Lib.hid hI
    have HE := Lib.hid hE
    have HS := Lib.hid hS
    have HL := Lib.hid hls
    obtain ⟨e0, e1, e2, e3, e4, e5, e6, e7⟩ := hE
    have hl := Lib.hid e6.len
    have z0 := e0.lt; have z1 := e1.lt; have z2 := e2.lt; have z3 := e3.lt; have z4 := e4.lt; have z5 := e5.lt
    have d0 := e0.cell 0; have d1 := e1.cell 0; have d2 := e2.cell 0; have d3 := e3.cell 0; have d4 := e4.cell 0; have d5 := e5.cell 0
    have hBs : B ≤ w.heap.size := by omega
    have d5' : w.cell? ⟨b0 + 5, 0, none⟩ = some (takeV b0) := d5
    clear d5
    unfold takeV at d5'
    obtain ⟨p2, o2, rfl, hB2, c2'⟩ := (e7.more hBs).i64 (k := r) hr
    obtain ⟨b, o, x, rfl, hB1, gx, c00, c01, c02⟩ := (e6.more hBs).fac hr
    have lb := lens_bound HL.out (i := r) (by rw [hl.out]; exact hr)
    have Gx := Lib.hid gx
    clear hS e0 e1 e2 e3 e4 e5 e6 e7 hW hI gx
    have et := enterOk Try.func78 (by kernel_rfl) (by kernel_rfl)
    unfold EnterOk at et
    have ep' := ep
    unfold EnterOk at ep'
    generalize hlr : ls.getD r 0 = lr at *
    obtain ⟨lb0, lb1⟩ := lb
    have u1 : IntKind.i64.wrap (a + lr) = a + lr := IntWalk.i64_in _ (by omega)
    have i1 : (0 : Int) ≤ (r : Int) := by omega
    have i2 : (r : Int) < n := by omega
    by_cases h1 : a + lr ≤ i
    · have e := Lib.hid (show pcs ls rs i j (r + 1) r a = [] from pcs_out1 (by rw [hlr]; exact h1))
      go_enter Try.func78, Try.ntmps78
      go_wp2_with fail
      refine bodyPost_ret (results_none rfl _ _ _) rfl ?_
      exact ⟨rfl, gb_below (Below.refl _ _), by rw [e.out]; exact HS.out⟩
    by_cases h2 : j ≤ a
    · have e := Lib.hid (show pcs ls rs i j (r + 1) r a = [] from pcs_out2 h2)
      go_enter Try.func78, Try.ntmps78
      go_wp2_with fail
      refine bodyPost_ret (results_none rfl _ _ _) rfl ?_
      exact ⟨rfl, gb_below (Below.refl _ _), by rw [e.out]; exact HS.out⟩
    by_cases h3 : i ≤ a ∧ a + lr ≤ j
    · have e := Lib.hid (show pcs ls rs i j (r + 1) r a = [r] from pcs_in (by omega) (by rw [hlr]; exact h1) h2 h3.1 (by rw [hlr]; exact h3.2))
      obtain ⟨h30, h31⟩ := h3
      go_enter Try.func78, Try.ntmps78
      go_wp2_with fail
      refine (HW.out s r w hr HS.out).mono ?_
      rintro e1 w1 ⟨rfl, hg1, hs1⟩
      go_wp2_with fail
      refine bodyPost_ret (results_none rfl _ _ _) rfl ?_
      exact ⟨rfl, hg1, by rw [e.out]; exact hs1⟩
    · have e := Lib.hid (show pcs ls rs i j (r + 1) r a = _ from pcs_go (by omega) (by rw [hlr]; exact h1) h2 (by rw [hlr]; exact h3) Gx.out)
      rw [Nat.add_sub_cancel] at e
      rcases wf_of HL.out r x Gx.out with ⟨h0, ha0, ha1, hb0', hb1'⟩ | ⟨cc, _, hxl, _⟩
      case inr =>
        exfalso
        have h0 : x.l.size ≠ 0 := by rw [hxl]; show (1 : Nat) ≠ 0; omega
        have := lens_let HL.out Gx.out h0
        apply h3
        omega
      have lp := lens_pair HL.out Gx.out h0
      have lb2 := lens_bound HL.out (i := x.a.toNat) (by rw [hl.out]; omega)
      have lb3 := lens_bound HL.out (i := x.b.toNat) (by rw [hl.out]; omega)
      have hnot : i ≤ a → ¬ (a + lr ≤ j) := fun h4 h5 => h3 ⟨h4, h5⟩
      by_cases h4 : i ≤ a
      all_goals
        try have h5 := hnot h4
        clear hnot h3
        go_enter Try.func78, Try.ntmps78
        go_wp2_with fail
        refine namedC fun w1 H1 => ?_
        have hb1 : Below w.heap.size w w1 := by rw [H1.out]; (repeat first | exact Below.refl _ _ | assumption | refine Below.drew ?_ | refine Below.alloc ?_ (by first | exact Nat.le_refl _ | (simp; done) | omega | (simp; omega)) _ | refine Below.setCell ?_ (by first | exact Nat.le_refl _ | (simp; done) | omega | (simp; omega)) _)
        have BX := Lib.hid (show Blk w1 w.heap.size 59 #[.string x.l, .int .i64 x.a, .int .i64 x.b] by rw [H1.out]; exact Blk.new _ _ _)
        clear H1
        have hx0 := Lib.hid (IH.out x.a.toNat (by omega) a s w1 (by omega) ha (by omega) (HE.out.next (by omega) hb1) (HI.out s w w1 HS.out hb1))
        rw [show ((x.a.toNat : Nat) : Int) = x.a by omega] at hx0
        refine hx0.out.mono ?_
        rintro e1 w2 ⟨rfl, hg2, hs2⟩
        have G2 := Lib.hid (gb_trans (gb_below hb1 (r := some ob)) hg2)
        have HS2 := Lib.hid hs2
        have HE2 := Lib.hid ((HE.out.next (by omega) hb1).grown hBo hob hg2)
        have BX2 := BX.out.grown hg2 (by intro e; injection e with e; omega)
        have BX3 := Lib.hid BX2
        have zx := BX2.lt
        clear hs2 hg2 BX2 d0 d1 d2 d3 d4 d5' c00 c01 c02 c2'
        obtain ⟨e0, e1, e2, e3, e4, e5, e6, e7⟩ := HE2.out
        have z0' := e0.lt; have z1' := e1.lt; have z5' := e5.lt
        have d1 := e1.cell 0
        have d5 : w2.cell? ⟨b0 + 5, 0, none⟩ = some (takeV b0) := e5.cell 0
        unfold takeV at d5
        have hBs2 : B ≤ w2.heap.size := by omega
        obtain ⟨p9, o9, hA9, hB9, c9⟩ := (e7.more hBs2).i64 (k := x.a.toNat) (by omega)
        obtain ⟨rfl, rfl⟩ : p2 = p9 ∧ o2 = o9 := by injection hA9 with hA9; injection hA9 with h1 h2; exact ⟨h1, h2⟩
        have hx1 := Lib.hid (IH.out x.b.toNat (by omega) (a + ls.getD x.a.toNat 0) ((pcs ls rs i j (x.a.toNat + 1) x.a.toNat a).foldl step s) w2.drew (by omega) (by omega) (by omega) (HE2.out.next (by omega) (Below.refl _ _).drew) (HI.out _ _ _ HS2.out (Below.refl _ _).drew))
        rw [show ((x.b.toNat : Nat) : Int) = x.b by omega] at hx1
        have ef := Lib.hid (show (pcs ls rs i j (r + 1) r a).foldl step s = (pcs ls rs i j (x.b.toNat + 1) x.b.toNat (a + ls.getD x.a.toNat 0)).foldl step ((pcs ls rs i j (x.a.toNat + 1) x.a.toNat a).foldl step s) by
          rw [e.out, List.foldl_append, pcs_fuel HL.out (f := r) (g := x.a.toNat + 1) (by omega) (by omega), pcs_fuel HL.out (f := r) (g := x.b.toNat + 1) (by omega) (by omega)])
        generalize hy : ls.getD x.a.toNat 0 = y at *
        have u2 : IntKind.i64.wrap (a + y) = a + y := IntWalk.i64_in _ (by omega)
        have i5 : x.a < (n : Int) := by omega
        have D1 := Lib.hid d1; have D5 := Lib.hid d5; have C9 := Lib.hid c9
        have Hn4 := Lib.hid (show some p2 ≠ some ob from by
          obtain ⟨p9, o9, hA9, hB9', _⟩ := e7.i64 (k := x.a.toNat) (by omega)
          injection hA9 with hA9; injection hA9 with h1 h2
          intro e; injection e with e; omega)
        clear d1 d5 c9
        clear e0 e1 e2 e3 e4 e5 e6 e7 hA9 hx0 h1 h2 lp lb2 lb3 u1 hy hlr lb0 lb1 ha2 h4
        try clear h5
        clear IH HW HI HE HS HL BX e
        go_wp2_with fail
        have d1 := D1.out; have d5 := D5.out; have c9 := C9.out
        obtain ⟨x0, x1, x2⟩ := BX3.out.three
        have n1 : some w.heap.size ≠ some ob := by intro e; injection e with e; omega
        have n2 : some (b0 + 1) ≠ some ob := by intro e; injection e with e; omega
        have n3 : some (b0 + 5) ≠ some ob := by intro e; injection e with e; omega
        have n4 : some p2 ≠ some ob := Hn4.out
        go_region_held3 (fun w' => w'.cell? ⟨w.heap.size, 1, none⟩ = some (.int .i64 x.a) ∧ w'.cell? ⟨w.heap.size, 2, none⟩ = some (.int .i64 x.b) ∧ w'.cell? ⟨b0 + 1, 0, none⟩ = some (.slice (some ⟨p2, o2, none⟩) n c2) ∧
            w'.cell? ⟨b0 + 5, 0, none⟩ = some (.func (.func 78) #[] #[.pointer (some ⟨b0 + 1, 0, none⟩), .pointer (some ⟨b0 + 2, 0, none⟩), .pointer (some ⟨b0 + 3, 0, none⟩), .pointer (some ⟨b0 + 4, 0, none⟩), .pointer (some ⟨b0, 0, none⟩), .pointer (some ⟨b0 + 5, 0, none⟩)]) ∧
            w'.cell? ⟨p2, o2 + x.a.toNat, none⟩ = some (.int .i64 y))
          (first | exact ⟨s0, s1, s2, s3, s4⟩ | exact ⟨x1, x2, d1, d5, c9⟩ | go_keep)
          (first
            | (go_at_call 78
               refine hx1.out.mono ?_
               rintro e9 w3 ⟨rfl, hg3, hs3⟩
               have G3 := Lib.hid (gb_trans G2.out (gb_trans (gb_below (Below.refl w2.heap.size w2).drew (r := some ob)) hg3))
               have s0 : w3.cell? ⟨w.heap.size, 1, none⟩ = some (.int .i64 x.a) := (hg3.cell_far ⟨w.heap.size, 1, none⟩ zx n1).trans x1
               have s1 : w3.cell? ⟨w.heap.size, 2, none⟩ = some (.int .i64 x.b) := (hg3.cell_far ⟨w.heap.size, 2, none⟩ zx n1).trans x2
               have s2 : w3.cell? ⟨b0 + 1, 0, none⟩ = some (.slice (some ⟨p2, o2, none⟩) n c2) := (hg3.cell_far ⟨b0 + 1, 0, none⟩ z1' n2).trans d1
               have s3 := (hg3.cell_far ⟨b0 + 5, 0, none⟩ z5' n3).trans d5
               have s4 : w3.cell? ⟨p2, o2 + x.a.toNat, none⟩ = some (.int .i64 y) := (hg3.cell_far ⟨p2, o2 + x.a.toNat, none⟩ hB9 n4).trans c9
               have HS3 := Lib.hid hs3
               clear hg3 hs3)
            | fail)
        go_wp2_with fail
        go_end0
        exact ⟨rfl, G3.out, by rw [ef.out]; exact HS3.out⟩
/-- the rules that are met, from the last one on -/
def pcsT (ls : List Int) (rs : List Fac) (i j : Int) : List Nat := if 0 < rs.length ∧ i < j then pcs ls rs i j rs.length (rs.length - 1) 0 else []
set_option maxHeartbeats 1000000 in
set_option maxRecDepth 100000 in
theorem pieces_any (s : S) (w : World) (hw : w.heap.size = b0) (hA : Rd w B A n 3 Fac.cells rs) (hA2 : Rd w B A2 n 1 intE ls) (hS : Inv s w) :
    Calls Try.prog 75 #[.agg #[.slice A n c], .slice A2 n c2, .int .i64 i, .int .i64 j, .func (.func fp) #[] cp] w
      (fun e w' => e = .returned (.tuple #[]) ∧ w.grownBy w' (some ob) ∧ Inv ((pcsT ls rs i j).foldl step s) w') := by
  have HW := Lib.hid hW
  have HI := Lib.hid hI
  have HS := Lib.hid hS
  have HL := Lib.hid hls
  have hl := Lib.hid hA.len
  have HA := Lib.hid hA
  have HA2 := Lib.hid hA2
  subst hw
  clear hW hI hS hA hA2 hls
  have et := enterOk Try.func78 (by kernel_rfl) (by kernel_rfl)
  unfold EnterOk at et
  by_cases h0 : n = 0
  · have e := Lib.hid (show pcsT ls rs i j = [] by unfold pcsT; rw [if_neg (by rw [hl.out]; omega)])
    subst h0
    go_enter Try.func75, Try.ntmps75
    go_wp2_with fail
    go_end0
    rw [e.out]
    refine ⟨rfl, gb_below (by (repeat first | exact Below.refl _ _ | assumption | refine Below.drew ?_ | refine Below.alloc ?_ (by first | exact Nat.le_refl _ | (simp; done) | omega | (simp; omega)) _ | refine Below.setCell ?_ (by first | exact Nat.le_refl _ | (simp; done) | omega | (simp; omega)) _)), HI.out _ _ _ HS.out (by (repeat first | exact Below.refl _ _ | assumption | refine Below.drew ?_ | refine Below.alloc ?_ (by first | exact Nat.le_refl _ | (simp; done) | omega | (simp; omega)) _ | refine Below.setCell ?_ (by first | exact Nat.le_refl _ | (simp; done) | omega | (simp; omega)) _))⟩
  by_cases hij : i < j
  · have e := Lib.hid (show pcsT ls rs i j = pcs ls rs i j (n - 1 + 1) (n - 1) 0 by unfold pcsT; rw [if_pos (by rw [hl.out]; omega), hl.out, show n - 1 + 1 = n by omega])
    have h1 : 0 < n := by omega
    have u0 : IntKind.i64.wrap ((n : Int) - 1) = (n : Int) - 1 := IntWalk.i64_in _ (by omega)
    have hlb := lens_bound HL.out (i := n - 1) (by rw [hl.out]; omega)
    go_enter Try.func75, Try.ntmps75
    go_wp2_with fail
    refine namedC fun w1 H1 => ?_
    have hb1 : Below w.heap.size w w1 := by rw [H1.out]; (repeat first | exact Below.refl _ _ | assumption | refine Below.drew ?_ | refine Below.alloc ?_ (by first | exact Nat.le_refl _ | (simp; done) | omega | (simp; omega)) _ | refine Below.setCell ?_ (by first | exact Nat.le_refl _ | (simp; done) | omega | (simp; omega)) _)
    have hE : PEnv B w.heap.size A n c rs A2 c2 ls i j fp cp w1 := by
      refine ⟨?_, ?_, ?_, ?_, ?_, ?_, (HA.out.next' (by omega) hb1), (HA2.out.next' (by omega) hb1)⟩
      · rw [H1.out]; exact (((((Blk.new w _ _).alloc _).alloc _).alloc _).alloc _).alloc _
      · rw [H1.out]; simpa using ((((Blk.new (w.alloc _) _ _).alloc _).alloc _).alloc _).alloc _
      · rw [H1.out]; simpa using (((Blk.new ((w.alloc _).alloc _) _ _).alloc _).alloc _).alloc _
      · rw [H1.out]; simpa using ((Blk.new (((w.alloc _).alloc _).alloc _) _ _).alloc _).alloc _
      · rw [H1.out]; simpa using (Blk.new ((((w.alloc _).alloc _).alloc _).alloc _) _ _).alloc _
      · rw [H1.out]; simpa [takeV] using Blk.new (((((w.alloc _).alloc _).alloc _).alloc _).alloc _) _ _
    have hE' := Lib.hid hE
    clear hE H1
    have ht := take_any Inv step HI.out B ob w.heap.size hBo hob A n c rs A2 c2 ls i j fp ep cp HL.out HW.out (n - 1) 0 s w1 (by omega) (by omega) (by omega) hE'.out (HI.out _ _ _ HS.out hb1)
    rw [show ((n - 1 : Nat) : Int) = (n : Int) - 1 by omega] at ht
    refine (by simpa [Nat.add_assoc] using ht : Calls _ _ _ _ _).mono ?_
    rintro e1 w2 ⟨rfl, hg2, hs2⟩
    have G2 := Lib.hid (gb_trans (gb_below hb1 (r := some ob)) hg2)
    have HS2 := Lib.hid hs2
    clear hg2 hs2 ht
    go_wp2_with fail
    go_end0
    exact ⟨rfl, G2.out, by rw [e.out]; exact HS2.out⟩
  · have e := Lib.hid (show pcsT ls rs i j = [] by unfold pcsT; rw [if_neg (by omega)])
    have h1 : 0 < n := by omega
    go_enter Try.func75, Try.ntmps75
    go_wp2_with fail
    go_end0
    rw [e.out]
    refine ⟨rfl, gb_below (by (repeat first | exact Below.refl _ _ | assumption | refine Below.drew ?_ | refine Below.alloc ?_ (by first | exact Nat.le_refl _ | (simp; done) | omega | (simp; omega)) _ | refine Below.setCell ?_ (by first | exact Nat.le_refl _ | (simp; done) | omega | (simp; omega)) _)), HI.out _ _ _ HS.out (by (repeat first | exact Below.refl _ _ | assumption | refine Below.drew ?_ | refine Below.alloc ?_ (by first | exact Nat.le_refl _ | (simp; done) | omega | (simp; omega)) _ | refine Below.setCell ?_ (by first | exact Nat.le_refl _ | (simp; done) | omega | (simp; omega)) _))⟩
end
end Go.Proofs.Ytajfjgemfnfakaa


/-
  Whether the words of two grammars are the same, in the program: by their prints.
-/
namespace Go.Proofs.Ytajfjgemfnfakaa
open Go.RowKit

set_option maxHeartbeats 4000000 in
set_option maxRecDepth 100000 in
theorem print1_any (k : Nat) (p : PN) (ob wb B : Nat) (A L M S : Option Addr) (n c cl cm cs : Nat) (ms ss : List PN) (sk mk : PN) (w : World) (hob : Blk w ob 107 #[.int .u64 p.1, .int .u64 p.2]) (hwb : Blk w wb 73 #[.pointer (some ⟨B, 0, none⟩)])
    (hB : Blk w B 105 #[.slice A n c, .slice L n cl, .slice M n cm, .slice S n cs]) (hM : Rd w w.heap.size M n 2 prE ms) (hS : Rd w w.heap.size S n 2 prE ss) (hk : k < n) (hs : ss[k]? = some sk) (hm : ms[k]? = some mk) (okp : PrOk p) (oks : PrOk sk) (okm : PrOk mk) :
    Calls Try.prog 76 #[.int .i64 (k : Int), .pointer (some ⟨ob, 0, none⟩), .pointer (some ⟨wb, 0, none⟩)] w (fun e w' => e = .returned (.tuple #[]) ∧ w.grownBy w' (some ob) ∧ Blk w' ob 107 #[.int .u64 (plusP (timesP p sk) mk).1, .int .u64 (plusP (timesP p sk) mk).2]) := by
  obtain ⟨b3, o3, rfl, hB3, x3, g3, e3⟩ := hS.at_ hk
  obtain rfl : x3 = sk := Option.some.inj (g3.symm.trans hs)
  obtain ⟨b2, o2, rfl, hB2, x2, g2, e2⟩ := hM.at_ hk
  obtain rfl : x2 = mk := Option.some.inj (g2.symm.trans hm)
  have s0 := e3 0 _ rfl
  have s1 := e3 1 _ rfl
  have m0 := e2 0 _ rfl
  have m1 := e2 1 _ rfl
  rw [Nat.add_zero] at s0 m0
  have zw := hwb.lt
  have zB := hB.lt
  have z0 := hob.lt
  have i2 : (0 : Int) ≤ (k : Int) := by omega
  have i3 : (k : Int) < n := by omega
  have HB := Lib.hid hob
  have CT1 := Lib.hid (fun W => show Calls Try.prog 69 #[.agg #[.int .u64 p.1, .int .u64 p.2], .agg #[.int .u64 x3.1, .int .u64 x3.2]] W (Ret (.agg #[.int .u64 (timesP p x3).1, .int .u64 (timesP p x3).2]) W) from times_any p x3 W okp oks)
  have CT2 := Lib.hid (fun W => show Calls Try.prog 70 #[.agg #[.int .u64 (timesP p x3).1, .int .u64 (timesP p x3).2], .agg #[.int .u64 x2.1, .int .u64 x2.2]] W (Ret (.agg #[.int .u64 (plusP (timesP p x3) x2).1, .int .u64 (plusP (timesP p x3) x2).2]) W) from plus_any (timesP p x3) x2 W (timesP_ok _ _) okm)
  generalize plusP (timesP p x3) x2 = v at *
  generalize timesP p x3 = tp at *
  have HS := Lib.hid (fun (W : World) (h : Below w.heap.size w W) => show W.cell? ⟨ob, 0, none⟩ = some (.int .u64 p.1) ∧ W.cell? ⟨ob, 1, none⟩ = some (.int .u64 p.2) ∧ W.cell? ⟨wb, 0, none⟩ = some (.pointer (some ⟨B, 0, none⟩)) ∧ W.cell? ⟨B, 2, none⟩ = some (.slice (some ⟨b2, o2, none⟩) n cm) ∧ W.cell? ⟨B, 3, none⟩ = some (.slice (some ⟨b3, o3, none⟩) n cs) ∧ W.cell? ⟨b3, o3 + k * 2, none⟩ = some (.int .u64 x3.1) ∧ W.cell? ⟨b3, o3 + k * 2 + 1, none⟩ = some (.int .u64 x3.2) ∧ W.cell? ⟨b2, o2 + k * 2, none⟩ = some (.int .u64 x2.1) ∧ W.cell? ⟨b2, o2 + k * 2 + 1, none⟩ = some (.int .u64 x2.2) from
    ⟨(h.cell (p := ⟨ob, 0, none⟩) z0).trans (hob.cell 0), (h.cell (p := ⟨ob, 1, none⟩) z0).trans (hob.cell 1), (h.cell (p := ⟨wb, 0, none⟩) zw).trans (hwb.cell 0), (h.cell (p := ⟨B, 2, none⟩) zB).trans (hB.cell 2), (h.cell (p := ⟨B, 3, none⟩) zB).trans (hB.cell 3),
     (h.cell (p := ⟨b3, _, none⟩) hB3).trans s0, (h.cell (p := ⟨b3, _, none⟩) hB3).trans s1, (h.cell (p := ⟨b2, _, none⟩) hB2).trans m0, (h.cell (p := ⟨b2, _, none⟩) hB2).trans m1⟩)
  clear hob hwb hB hM hS e3 e2 g3 g2 s0 s1 m0 m1
  go_enter Try.func76, Try.ntmps76
  go_wp2_with fail
  refine wp_region_N (fun W => W.cell? ⟨ob, 0, none⟩ = some (.int .u64 p.1) ∧ W.cell? ⟨ob, 1, none⟩ = some (.int .u64 p.2) ∧ W.cell? ⟨wb, 0, none⟩ = some (.pointer (some ⟨B, 0, none⟩)) ∧ W.cell? ⟨B, 2, none⟩ = some (.slice (some ⟨b2, o2, none⟩) n cm) ∧ W.cell? ⟨B, 3, none⟩ = some (.slice (some ⟨b3, o3, none⟩) n cs) ∧ W.cell? ⟨b3, o3 + k * 2, none⟩ = some (.int .u64 x3.1) ∧ W.cell? ⟨b3, o3 + k * 2 + 1, none⟩ = some (.int .u64 x3.2) ∧ W.cell? ⟨b2, o2 + k * 2, none⟩ = some (.int .u64 x2.1) ∧ W.cell? ⟨b2, o2 + k * 2 + 1, none⟩ = some (.int .u64 x2.2)) [17] (by kernel_rfl) ?_
  have c6 : Below w.heap.size w w.drew := (Below.refl _ _).drew
  have hS0 := HS.out _ c6
  refine wpAnyN_take (i := 0) (v := ?_) rfl (by kernel_rfl) (fun _ _ _ h => h) (by rfl) (fun W hW => ?_) hS0 ?_
  rotate_left
  · obtain ⟨z0, z1, z2, z3, z4, z5, z6, z7, z8⟩ := hW
    go_simp
    try with_reducible rfl
  try simp only [List.getElem_toArray, List.getElem_cons_zero, List.getElem_cons_succ, Act.put, List.setIfInBounds_toArray, List.set_cons_zero, List.set_cons_succ]
  refine wpAnyN_take (i := 1) (v := ?_) rfl (by kernel_rfl) (fun _ _ _ h => h) (by rfl) (fun W hW => ?_) hS0 ?_
  rotate_left
  · obtain ⟨z0, z1, z2, z3, z4, z5, z6, z7, z8⟩ := hW
    go_simp
    try with_reducible rfl
  try simp only [List.getElem_toArray, List.getElem_cons_zero, List.getElem_cons_succ, Act.put, List.setIfInBounds_toArray, List.set_cons_zero, List.set_cons_succ]
  refine wpAnyN_take (i := 2) (v := ?_) rfl (by kernel_rfl) (fun _ _ _ h => h) (by rfl) (fun W hW => ?_) hS0 ?_
  rotate_left
  · obtain ⟨z0, z1, z2, z3, z4, z5, z6, z7, z8⟩ := hW
    go_simp
    try with_reducible rfl
  try simp only [List.getElem_toArray, List.getElem_cons_zero, List.getElem_cons_succ, Act.put, List.setIfInBounds_toArray, List.set_cons_zero, List.set_cons_succ]
  refine wpAnyN_take (i := 3) (v := ?_) rfl (by kernel_rfl) (fun _ _ _ h => h) (by rfl) (fun W hW => ?_) hS0 ?_
  rotate_left
  · obtain ⟨z0, z1, z2, z3, z4, z5, z6, z7, z8⟩ := hW
    go_simp
    try with_reducible rfl
  try simp only [List.getElem_toArray, List.getElem_cons_zero, List.getElem_cons_succ, Act.put, List.setIfInBounds_toArray, List.set_cons_zero, List.set_cons_succ]
  refine wpAnyN_take (i := 4) (v := ?_) rfl (by kernel_rfl) (fun _ _ _ h => h) (by rfl) (fun W hW => ?_) hS0 ?_
  rotate_left
  · obtain ⟨z0, z1, z2, z3, z4, z5, z6, z7, z8⟩ := hW
    go_simp
    try with_reducible rfl
  try simp only [List.getElem_toArray, List.getElem_cons_zero, List.getElem_cons_succ, Act.put, List.setIfInBounds_toArray, List.set_cons_zero, List.set_cons_succ]
  refine wpAnyN_take (i := 5) (v := ?_) rfl (by kernel_rfl) (fun _ _ _ h => h) (by rfl) (fun W hW => ?_) hS0 ?_
  rotate_left
  · obtain ⟨z0, z1, z2, z3, z4, z5, z6, z7, z8⟩ := hW
    go_simp
    try with_reducible rfl
  try simp only [List.getElem_toArray, List.getElem_cons_zero, List.getElem_cons_succ, Act.put, List.setIfInBounds_toArray, List.set_cons_zero, List.set_cons_succ]
  refine wpAnyN_take (i := 6) (v := ?_) rfl (by kernel_rfl) (fun _ _ _ h => h) (by rfl) (fun W hW => ?_) hS0 ?_
  rotate_left
  · obtain ⟨z0, z1, z2, z3, z4, z5, z6, z7, z8⟩ := hW
    go_simp
    try with_reducible rfl
  try simp only [List.getElem_toArray, List.getElem_cons_zero, List.getElem_cons_succ, Act.put, List.setIfInBounds_toArray, List.set_cons_zero, List.set_cons_succ]
  refine wpAnyN_take (i := 7) (v := ?_) rfl (by kernel_rfl) (fun _ _ _ h => h) (by rfl) (fun W hW => ?_) hS0 ?_
  rotate_left
  · obtain ⟨z0, z1, z2, z3, z4, z5, z6, z7, z8⟩ := hW
    go_simp
    try with_reducible rfl
  try simp only [List.getElem_toArray, List.getElem_cons_zero, List.getElem_cons_succ, Act.put, List.setIfInBounds_toArray, List.set_cons_zero, List.set_cons_succ]
  refine wpAnyN_take (i := 9) (v := ?_) rfl (by kernel_rfl) (fun _ _ _ h => h) (by rfl) (fun W hW => ?_) hS0 ?_
  rotate_left
  · obtain ⟨z0, z1, z2, z3, z4, z5, z6, z7, z8⟩ := hW
    go_simp
    try with_reducible rfl
  try simp only [List.getElem_toArray, List.getElem_cons_zero, List.getElem_cons_succ, Act.put, List.setIfInBounds_toArray, List.set_cons_zero, List.set_cons_succ]
  refine wpAnyN_take (i := 10) (v := ?_) rfl (by kernel_rfl) (fun _ _ _ h => h) (by rfl) (fun W hW => ?_) hS0 ?_
  rotate_left
  · obtain ⟨z0, z1, z2, z3, z4, z5, z6, z7, z8⟩ := hW
    go_simp
    try with_reducible rfl
  try simp only [List.getElem_toArray, List.getElem_cons_zero, List.getElem_cons_succ, Act.put, List.setIfInBounds_toArray, List.set_cons_zero, List.set_cons_succ]
  refine wpAnyN_take (i := 11) (v := ?_) rfl (by kernel_rfl) (fun _ _ _ h => h) (by rfl) (fun W hW => ?_) hS0 ?_
  rotate_left
  · obtain ⟨z0, z1, z2, z3, z4, z5, z6, z7, z8⟩ := hW
    go_simp
    try with_reducible rfl
  try simp only [List.getElem_toArray, List.getElem_cons_zero, List.getElem_cons_succ, Act.put, List.setIfInBounds_toArray, List.set_cons_zero, List.set_cons_succ]
  refine wpAnyN_take (i := 12) (v := ?_) rfl (by kernel_rfl) (fun _ _ _ h => h) (by rfl) (fun W hW => ?_) hS0 ?_
  rotate_left
  · obtain ⟨z0, z1, z2, z3, z4, z5, z6, z7, z8⟩ := hW
    go_simp
    try with_reducible rfl
  try simp only [List.getElem_toArray, List.getElem_cons_zero, List.getElem_cons_succ, Act.put, List.setIfInBounds_toArray, List.set_cons_zero, List.set_cons_succ]
  refine wpAnyN_take (i := 13) (v := ?_) rfl (by kernel_rfl) (fun _ _ _ h => h) (by rfl) (fun W hW => ?_) hS0 ?_
  rotate_left
  · obtain ⟨z0, z1, z2, z3, z4, z5, z6, z7, z8⟩ := hW
    go_simp
    try with_reducible rfl
  try simp only [List.getElem_toArray, List.getElem_cons_zero, List.getElem_cons_succ, Act.put, List.setIfInBounds_toArray, List.set_cons_zero, List.set_cons_succ]
  refine wpAnyN_take (i := 14) (v := ?_) rfl (by kernel_rfl) (fun _ _ _ h => h) (by rfl) (fun W hW => ?_) hS0 ?_
  rotate_left
  · obtain ⟨z0, z1, z2, z3, z4, z5, z6, z7, z8⟩ := hW
    go_simp
    try with_reducible rfl
  try simp only [List.getElem_toArray, List.getElem_cons_zero, List.getElem_cons_succ, Act.put, List.setIfInBounds_toArray, List.set_cons_zero, List.set_cons_succ]
  refine wpAnyN_take (i := 15) (v := ?_) rfl (by kernel_rfl) (fun _ _ _ h => h) (by rfl) (fun W hW => ?_) hS0 ?_
  rotate_left
  · obtain ⟨z0, z1, z2, z3, z4, z5, z6, z7, z8⟩ := hW
    go_simp
    try with_reducible rfl
  try simp only [List.getElem_toArray, List.getElem_cons_zero, List.getElem_cons_succ, Act.put, List.setIfInBounds_toArray, List.set_cons_zero, List.set_cons_succ]
  refine wpAnyN_next (i := 8) rfl (by kernel_rfl) (fun Kc hK => ?_)
  go_simp
  go_wp2_with (go_at_call 69; refine (CT1.out _).mono ?_; rintro e w7 ⟨rfl, hb7⟩)
  have c7 : Below w.heap.size w w7 := c6.trans hb7
  refine hK.out _ _ (fun _ => HS.out _ c7) ?_
  clear hK Kc
  try simp only [List.getElem_toArray, List.getElem_cons_zero, List.getElem_cons_succ, Act.put, List.setIfInBounds_toArray, List.set_cons_zero, List.set_cons_succ]
  refine wpAnyN_next (i := 16) rfl (by kernel_rfl) (fun Kc hK => ?_)
  go_simp
  go_wp2_with (go_at_call 70; refine (CT2.out _).mono ?_; rintro e w8 ⟨rfl, hb8⟩)
  have c8 : Below w.heap.size w w8 := c7.trans (hb8.mono c7.size)
  refine hK.out _ _ (fun _ => HS.out _ c8) ?_
  clear hK Kc
  try simp only [List.getElem_toArray, List.getElem_cons_zero, List.getElem_cons_succ, Act.put, List.setIfInBounds_toArray, List.set_cons_zero, List.set_cons_succ]
  have Y8 := HB.out.next c8
  have y0 := Y8.cell 0
  have y1 := Y8.cell 1
  have f0 := Y8.frozen 0
  have f1 := Y8.frozen 1
  refine wpAnyN_next (i := 17) rfl (by kernel_rfl) (fun Kc hK => ?_)
  go_simp
  refine hK.out _ _ (fun h => absurd h (by decide)) ?_
  clear hK Kc
  try simp only [List.getElem_toArray, List.getElem_cons_zero, List.getElem_cons_succ, Act.put, List.setIfInBounds_toArray, List.set_cons_zero, List.set_cons_succ]
  refine wpAnyN_done (by kernel_rfl) ?_ _
  go_wp2_with fail
  go_end0
  exact ⟨rfl, gb_trans (gb_below c8) (gb_trans (gb_set w8 ob 0 _) (gb_set _ ob 1 _)), (Y8.set_ 0 _).set_ 1 _⟩
theorem equal_pn (p q : PN) (W : World) : (Op.equalIn 10000 107 (.agg #[.int .u64 p.1, .int .u64 p.2]) (.agg #[.int .u64 q.1, .int .u64 q.2])).run Try.prog W = .ok (decide (p = q)) W := by
  have e : decide (p = q) = (decide ((p.1 : Int) = q.1) && decide ((p.2 : Int) = q.2)) := by
    rw [← Bool.decide_and]
    refine decide_eq_decide.2 ⟨fun h => by rw [h]; exact ⟨rfl, rfl⟩, fun h => Prod.ext (by omega) (by omega)⟩
  rw [e]
  show (Op.equalIn (9999 + 1) _ _ _).run _ _ = _
  unfold Op.equalIn
  simp only [Sem.run_bind, run_underlying Try.underlying107, Result.andThen_ok]
  have hI : ∀ (a b : Int) (W : World), (Op.equalIn 9999 77 (.int .u64 a) (.int .u64 b)).run Try.prog W = .ok (decide (a = b)) W := fun a b W => by
    show (Op.equalIn (9998 + 1) _ _ _).run _ _ = _
    unfold Op.equalIn
    simp only [Sem.run_bind, run_underlying Try.underlying77, Result.andThen_ok]
    simp [go_sem]
    exact Bool.beq_eq_decide_eq a b
  simp [go_sem, hI, isAgg, run_underlying Try.underlying77, show List.range' 0 2 = [0, 1] from rfl]
  by_cases h1 : (p.1 : Int) = q.1 <;> by_cases h2 : (p.2 : Int) = q.2 <;> simp [h1, h2]
theorem lastI_in {rs : List Fac} {ls : List Int} (hls : gOk rs = some ls) : 0 ≤ lastI ls ∧ lastI ls ≤ 1000000000000000 := by
  obtain ⟨hgl, _, hl⟩ := gOk_lens hls
  unfold lastI
  by_cases h0 : rs.length = 0
  · rw [List.eq_nil_of_length_eq_zero (hl.trans h0)]; show (0 : Int) ≤ 0 ∧ (0 : Int) ≤ 1000000000000000; omega
  · have := lens_bound hgl (i := ls.length - 1) (by omega)
    omega
abbrev mks (rs : List Fac) : List PN := (wvAll rs).map Prod.fst
abbrev sts (rs : List Fac) : List PN := (wvAll rs).map Prod.snd
/-- a weave, read -/
def Wv (w : World) (bs B n : Nat) (rs : List Fac) (ls : List Int) : Prop :=
  ∃ A c L cl M cm S cs, Blk w B 105 #[.slice A n c, .slice L n cl, .slice M n cm, .slice S n cs] ∧ B < bs ∧ Rd w bs A n 3 Fac.cells rs ∧ Rd w bs L n 1 intE ls ∧ Rd w bs M n 2 prE (mks rs) ∧ Rd w bs S n 2 prE (sts rs)
theorem Wv.below {w w' : World} {B n : Nat} {rs : List Fac} {ls : List Int} (h : Wv w w.heap.size B n rs ls) (hb : Below w.heap.size w w') : Wv w' w'.heap.size B n rs ls := by
  obtain ⟨A, c, L, cl, M, cm, S, cs, h1, h2, h3, h4, h5, h6⟩ := h
  exact ⟨A, c, L, cl, M, cm, S, cs, h1.next hb, Nat.lt_of_lt_of_le h2 hb.size, h3.next hb, h4.next hb, h5.next hb, h6.next hb⟩
/-- a print and what comes behind it -/
def prStep (rs : List Fac) (p : PN) (k : Nat) : PN := plusP (timesP p ((wvAll rs).getD k wvD).2) ((wvAll rs).getD k wvD).1
def prT (rs : List Fac) (ls : List Int) (i j : Int) : PN := (pcsT ls rs i j).foldl (prStep rs) (0, 0)
set_option maxHeartbeats 1000000 in
set_option maxRecDepth 100000 in
theorem wprint_any (B n : Nat) (rs : List Fac) (ls : List Int) (i j : Int) (w : World) (hls : gOk rs = some ls) (hw : Wv w w.heap.size B n rs ls) :
    Calls Try.prog 71 #[.pointer (some ⟨B, 0, none⟩), .int .i64 i, .int .i64 j] w (Ret (.agg #[.int .u64 (prT rs ls i j).1, .int .u64 (prT rs ls i j).2]) w) := by
  obtain ⟨A, c, L, cl, M, cm, S, cs, hB, hBs, hA, hL, hM, hS⟩ := hw
  obtain ⟨hgl, h400, hlen⟩ := gOk_lens hls
  have hwf := Lib.hid (wf_of hgl)
  have hl := hA.len
  have HB := Lib.hid hB
  have HA := Lib.hid hA
  have HL := Lib.hid hL
  have HM := Lib.hid hM
  have HSs := Lib.hid hS
  have HG := Lib.hid hgl
  have hwl : (wvAll rs).length = n := by unfold wvAll; rw [full_len]; exact hl
  clear hA hL hM hS hB hgl
  go_enter Try.func71, Try.ntmps71
  go_wp2_with fail
  refine named fun w0 H0 => ?_
  have hb0 : Below w.heap.size w w0 := by rw [H0.out]; (repeat first | exact Below.refl _ _ | assumption | refine Below.drew ?_ | refine Below.alloc ?_ (by first | exact Nat.le_refl _ | (simp; done) | omega | (simp; omega)) _ | refine Below.setCell ?_ (by first | exact Nat.le_refl _ | (simp; done) | omega | (simp; omega)) _)
  have BW := Lib.hid (show Blk w0 w.heap.size 73 #[.pointer (some ⟨B, 0, none⟩)] by rw [H0.out]; exact ((Blk.new w _ _).alloc _).alloc _)
  have BO := Lib.hid (show Blk w0 (w.heap.size + 1 + 1) 107 #[.int .u64 0, .int .u64 0] by rw [H0.out]; simpa using Blk.new ((w.alloc _).alloc _) _ _)
  have BR := Lib.hid (show Blk w0 (w.heap.size + 1) 107 #[.int .u64 0, .int .u64 0] by rw [H0.out]; simpa using (Blk.new (w.alloc _) _ _).alloc _)
  have hz := BO.out.lt
  clear H0
  have HS := Lib.hid (fun (W : World) (h : Below w0.heap.size w0 W) => show W.cell? ⟨w.heap.size, 0, none⟩ = some (.pointer (some ⟨B, 0, none⟩)) ∧ W.cell? ⟨B, 0, none⟩ = some (.slice A n c) ∧ W.cell? ⟨B, 1, none⟩ = some (.slice L n cl) from
    ⟨(BW.out.next h).cell 0, ((HB.out.next hb0).next h).cell 0, ((HB.out.next hb0).next h).cell 1⟩)
  refine wp_region_N (fun W => W.cell? ⟨w.heap.size, 0, none⟩ = some (.pointer (some ⟨B, 0, none⟩)) ∧ W.cell? ⟨B, 0, none⟩ = some (.slice A n c) ∧ W.cell? ⟨B, 1, none⟩ = some (.slice L n cl)) [11] (by kernel_rfl) ?_
  have c6 : Below w0.heap.size w0 w0.drew := (Below.refl _ _).drew
  have hS0 := HS.out _ c6
  refine wpAnyN_take (i := 0) (v := ?_) rfl (by kernel_rfl) (fun _ _ _ h => h) (by rfl) (fun W hW => ?_) hS0 ?_
  rotate_left
  · obtain ⟨z0, z1, z2⟩ := hW
    go_simp
    try with_reducible rfl
  try simp only [List.getElem_toArray, List.getElem_cons_zero, List.getElem_cons_succ, Act.put, List.setIfInBounds_toArray, List.set_cons_zero, List.set_cons_succ]
  refine wpAnyN_take (i := 1) (v := ?_) rfl (by kernel_rfl) (fun _ _ _ h => h) (by rfl) (fun W hW => ?_) hS0 ?_
  rotate_left
  · obtain ⟨z0, z1, z2⟩ := hW
    go_simp
    try with_reducible rfl
  try simp only [List.getElem_toArray, List.getElem_cons_zero, List.getElem_cons_succ, Act.put, List.setIfInBounds_toArray, List.set_cons_zero, List.set_cons_succ]
  refine wpAnyN_take (i := 2) (v := ?_) rfl (by kernel_rfl) (fun _ _ _ h => h) (by rfl) (fun W hW => ?_) hS0 ?_
  rotate_left
  · obtain ⟨z0, z1, z2⟩ := hW
    go_simp
    try with_reducible rfl
  try simp only [List.getElem_toArray, List.getElem_cons_zero, List.getElem_cons_succ, Act.put, List.setIfInBounds_toArray, List.set_cons_zero, List.set_cons_succ]
  refine wpAnyN_take (i := 3) (v := ?_) rfl (by kernel_rfl) (fun _ _ _ h => h) (by rfl) (fun W hW => ?_) hS0 ?_
  rotate_left
  · obtain ⟨z0, z1, z2⟩ := hW
    go_simp
    try with_reducible rfl
  try simp only [List.getElem_toArray, List.getElem_cons_zero, List.getElem_cons_succ, Act.put, List.setIfInBounds_toArray, List.set_cons_zero, List.set_cons_succ]
  refine wpAnyN_take (i := 4) (v := ?_) rfl (by kernel_rfl) (fun _ _ _ h => h) (by rfl) (fun W hW => ?_) hS0 ?_
  rotate_left
  · obtain ⟨z0, z1, z2⟩ := hW
    go_simp
    try with_reducible rfl
  try simp only [List.getElem_toArray, List.getElem_cons_zero, List.getElem_cons_succ, Act.put, List.setIfInBounds_toArray, List.set_cons_zero, List.set_cons_succ]
  refine wpAnyN_take (i := 5) (v := ?_) rfl (by kernel_rfl) (fun _ _ _ h => h) (by rfl) (fun W hW => ?_) hS0 ?_
  rotate_left
  · obtain ⟨z0, z1, z2⟩ := hW
    go_simp
    try with_reducible rfl
  try simp only [List.getElem_toArray, List.getElem_cons_zero, List.getElem_cons_succ, Act.put, List.setIfInBounds_toArray, List.set_cons_zero, List.set_cons_succ]
  refine wpAnyN_take (i := 6) (v := ?_) rfl (by kernel_rfl) (fun _ _ _ h => h) (by rfl) (fun W hW => ?_) hS0 ?_
  rotate_left
  · obtain ⟨z0, z1, z2⟩ := hW
    go_simp
    try with_reducible rfl
  try simp only [List.getElem_toArray, List.getElem_cons_zero, List.getElem_cons_succ, Act.put, List.setIfInBounds_toArray, List.set_cons_zero, List.set_cons_succ]
  refine wpAnyN_take (i := 7) (v := ?_) rfl (by kernel_rfl) (fun _ _ _ h => h) (by rfl) (fun W hW => ?_) hS0 ?_
  rotate_left
  · obtain ⟨z0, z1, z2⟩ := hW
    go_simp
    try with_reducible rfl
  try simp only [List.getElem_toArray, List.getElem_cons_zero, List.getElem_cons_succ, Act.put, List.setIfInBounds_toArray, List.set_cons_zero, List.set_cons_succ]
  refine wpAnyN_take (i := 8) (v := ?_) rfl (by kernel_rfl) (fun _ _ _ h => h) (by rfl) (fun W hW => ?_) hS0 ?_
  rotate_left
  · obtain ⟨z0, z1, z2⟩ := hW
    go_simp
    try with_reducible rfl
  try simp only [List.getElem_toArray, List.getElem_cons_zero, List.getElem_cons_succ, Act.put, List.setIfInBounds_toArray, List.set_cons_zero, List.set_cons_succ]
  refine wpAnyN_take (i := 9) (v := ?_) rfl (by kernel_rfl) (fun _ _ _ h => h) (by rfl) (fun W hW => ?_) hS0 ?_
  rotate_left
  · obtain ⟨z0, z1, z2⟩ := hW
    go_simp
    try with_reducible rfl
  try simp only [List.getElem_toArray, List.getElem_cons_zero, List.getElem_cons_succ, Act.put, List.setIfInBounds_toArray, List.set_cons_zero, List.set_cons_succ]
  refine wpAnyN_take (i := 10) (v := ?_) rfl (by kernel_rfl) (fun _ _ _ h => h) (by rfl) (fun W hW => ?_) hS0 ?_
  rotate_left
  · obtain ⟨z0, z1, z2⟩ := hW
    go_simp
    try with_reducible rfl
  try simp only [List.getElem_toArray, List.getElem_cons_zero, List.getElem_cons_succ, Act.put, List.setIfInBounds_toArray, List.set_cons_zero, List.set_cons_succ]
  have hb6 : Below w.heap.size w w0.drew := hb0.drew
  have BW6 := Lib.hid (BW.out.next c6)
  have BO6 := Lib.hid (BO.out.next c6)
  have BR6 := Lib.hid (BR.out.next c6)
  have hz6 := BO6.out.lt
  clear c6 hS0 HS BW BO BR hz hb0
  generalize w0.drew = w6 at *
  have hp := pieces_any (fun (p : PN) (w' : World) => PrOk p ∧ Blk w' (w.heap.size + 1 + 1) 107 #[.int .u64 p.1, .int .u64 p.2] ∧ Blk w' w.heap.size 73 #[.pointer (some ⟨B, 0, none⟩)] ∧ Blk w' B 105 #[.slice A n c, .slice L n cl, .slice M n cm, .slice S n cs] ∧ Rd w' w.heap.size M n 2 prE (mks rs) ∧ Rd w' w.heap.size S n 2 prE (sts rs))
    (prStep rs) (fun s wa wb h hb => ⟨h.1, h.2.1.next hb, h.2.2.1.next hb, h.2.2.2.1.next hb, h.2.2.2.2.1.next' (by have := h.2.2.1.lt; omega) hb, h.2.2.2.2.2.next' (by have := h.2.2.1.lt; omega) hb⟩)
    w.heap.size (w.heap.size + 1 + 1) w6.heap.size (by omega) hz6 A n c rs L cl ls i j 76 (enterOk Try.func76 (by kernel_rfl) (by kernel_rfl)) #[.pointer (some ⟨w.heap.size + 1 + 1, 0, none⟩), .pointer (some ⟨w.heap.size, 0, none⟩)] (by omega) HG.out
    (fun s k wa hk h => by
      obtain ⟨h0, h1, h2, h3, h4, h5⟩ := h
      have hzz := h1.lt
      have hv : (wvAll rs)[k]? = some ((wvAll rs).getD k wvD) := by rw [List.getD_eq_getElem?_getD, List.getElem?_eq_getElem (by omega)]; rfl
      have okk := wv_ok hwf.out k (by omega)
      have hc := print1_any k s (w.heap.size + 1 + 1) w.heap.size B A L M S n c cl cm cs _ _ _ _ wa h1 h2 h3 (h4.more (by omega)) (h5.more (by omega)) hk (by rw [List.getElem?_map, hv]; rfl) (by rw [List.getElem?_map, hv]; rfl) h0 okk.2 okk.1
      refine (by simpa using hc : Calls _ _ _ _ _).mono ?_
      rintro e w' ⟨rfl, hg, hB⟩
      exact ⟨rfl, hg, plusP_ok _ _, hB, h2.grown hg (by intro e; injection e with e; omega), h3.grown hg (by intro e; injection e with e; omega), h4.grown (by omega) hg (fun k hk => by injection hk with hk; omega), h5.grown (by omega) hg (fun k hk => by injection hk with hk; omega)⟩)
    (0, 0) w6 rfl (HA.out.below hb6) (HL.out.below hb6) ⟨⟨by show 0 < 2305843009213693951; omega, by show 0 < 2305843009213693951; omega⟩, BO6.out, BW6.out, HB.out.next hb6, HM.out.below hb6, HSs.out.below hb6⟩
  refine wpAnyN_next (i := 11) rfl (by kernel_rfl) (fun Kc hK => ?_)
  go_simp
  go_wp2_with (go_at_call 75; refine hp.mono ?_; rintro e w7 ⟨rfl, hg7, hq7⟩)
  refine hK.out _ _ (fun h => absurd h (by decide)) ?_
  clear hK Kc
  try simp only [List.getElem_toArray, List.getElem_cons_zero, List.getElem_cons_succ, Act.put, List.setIfInBounds_toArray, List.set_cons_zero, List.set_cons_succ]
  refine wpAnyN_done (by kernel_rfl) ?_ _
  have hq1 : Blk w7 (w.heap.size + 1 + 1) 107 #[.int .u64 (prT rs ls i j).1, .int .u64 (prT rs ls i j).2] := hq7.2.1
  have q0 := hq1.cell 0
  have q1 := hq1.cell 1
  have G7 := Lib.hid hg7
  have R7 := BR6.out.grown hg7 (by intro e; injection e with e; omega)
  have r0 := R7.cell 0
  have r1 := R7.cell 1
  have f0 := R7.frozen 0
  have f1 := R7.frozen 1
  generalize prT rs ls i j = P at *
  have hb7 := hb6.grown G7.out hb6.size (fun k hk => by injection hk with hk; omega)
  have R9 := Lib.hid ((R7.set_ 0 (.int .u64 P.1)).set_ 1 (.int .u64 P.2))
  clear hp hg7 hq7 hq1 R7
  go_wp2_with fail
  (try simp only [Exit.inBlock, Exit.then])
  refine bodyPost_ret (results_cell_row rfl _ _ (w.heap.size + 1) _ _ _ _ rfl R9.out Try.underlying107 rfl (by kernel_rfl)) rfl ?_
  exact ⟨rfl, (hb7.setCell (by show w.heap.size ≤ w.heap.size + 1; omega) _).setCell (by show w.heap.size ≤ w.heap.size + 1; omega) _⟩
set_option maxHeartbeats 1000000 in
set_option maxRecDepth 100000 in
theorem wlength_any (B n : Nat) (rs : List Fac) (ls : List Int) (w : World) (hls : gOk rs = some ls) (hw : Wv w w.heap.size B n rs ls) :
    Calls Try.prog 61 #[.pointer (some ⟨B, 0, none⟩)] w (Ret (.int .i64 (lastI ls)) w) := by
  obtain ⟨A, c, L, cl, M, cm, S, cs, hB, hBs, hA, hL, hM, hS⟩ := hw
  have d1 := hB.cell 1
  have HL := Lib.hid hL
  have h400 := (gOk_lens hls).2.1
  have hl := hA.len
  clear hM hS hA hL
  go_enter Try.func61, Try.ntmps61
  go_wp2_with (go_at_call 30; refine (last_any L n cl ls _ (by omega) HL.out).mono ?_; rintro e w7 ⟨rfl, hb7⟩)
  go_ret
  exact ⟨rfl, hb7⟩
set_option maxHeartbeats 1000000 in
set_option maxRecDepth 100000 in
theorem equal_any (B n : Nat) (rs : List Fac) (ls : List Int) (B2 n2 : Nat) (rs2 : List Fac) (ls2 : List Int) (i j l : Int) (w : World) (hls : gOk rs = some ls) (hls2 : gOk rs2 = some ls2) (hw : Wv w w.heap.size B n rs ls) (hw2 : Wv w w.heap.size B2 n2 rs2 ls2)
    (hi : 0 ≤ i ∧ i ≤ 1000000000000000) (hj : 0 ≤ j ∧ j ≤ 1000000000000000) (hl : 0 ≤ l ∧ l ≤ 1000000000000000) :
    Calls Try.prog 62 #[.pointer (some ⟨B, 0, none⟩), .int .i64 i, .pointer (some ⟨B2, 0, none⟩), .int .i64 j, .int .i64 l] w (Ret (.bool (prT rs ls i (i + l) == prT rs2 ls2 j (j + l))) w) := by
  have u1 : IntKind.i64.wrap (i + l) = i + l := IntWalk.i64_in _ (by omega)
  have u2 : IntKind.i64.wrap (j + l) = j + l := IntWalk.i64_in _ (by omega)
  have HV := Lib.hid hw
  have HW := Lib.hid hw2
  clear hw hw2
  go_enter Try.func62, Try.ntmps62
  go_wp2_with fail
  refine (wprint_any B n rs ls i (i + l) w hls HV.out).mono ?_
  rintro e w1 ⟨rfl, hb1⟩
  generalize prT rs ls i (i + l) = P1 at *
  go_wp2_with fail
  refine (wprint_any B2 n2 rs2 ls2 j (j + l) w1 hls2 (HW.out.below hb1)).mono ?_
  rintro e w2 ⟨rfl, hb2⟩
  generalize prT rs2 ls2 j (j + l) = P2 at *
  have hb := hb1.trans (hb2.mono hb1.size)
  clear hb1 hb2
  have he := equal_pn P1 P2 w2
  go_wp2_with fail
  go_ret
  exact ⟨by rw [show (P1 == P2) = decide (P1 = P2) from Bool.beq_eq_decide_eq P1 P2]; rfl, hb⟩
set_option maxHeartbeats 1000000 in
set_option maxRecDepth 100000 in
theorem wsame_any (B n : Nat) (rs : List Fac) (ls : List Int) (B2 n2 : Nat) (rs2 : List Fac) (ls2 : List Int) (w : World) (hls : gOk rs = some ls) (hls2 : gOk rs2 = some ls2) (hw : Wv w w.heap.size B n rs ls) (hw2 : Wv w w.heap.size B2 n2 rs2 ls2) :
    Calls Try.prog 40 #[.pointer (some ⟨B, 0, none⟩), .pointer (some ⟨B2, 0, none⟩)] w (Ret (.bool (lastI ls == lastI ls2 && prT rs ls 0 (lastI ls) == prT rs2 ls2 0 (lastI ls))) w) := by
  have HV := Lib.hid hw
  have HW := Lib.hid hw2
  clear hw hw2
  have hb0 := lastI_in hls
  have u0 : IntKind.i64.wrap (0 + lastI ls) = lastI ls := by rw [Int.zero_add]; exact IntWalk.i64_in _ (by omega)
  go_enter Try.func40, Try.ntmps40
  go_wp2_with fail
  refine (wlength_any B n rs ls w hls HV.out).mono ?_
  rintro e w1 ⟨rfl, hb1⟩
  have HW1 := Lib.hid (HW.out.below hb1)
  have HV1 := Lib.hid (HV.out.below hb1)
  generalize hla : lastI ls = a at *
  go_wp2_with fail
  refine (wlength_any B2 n2 rs2 ls2 w1 hls2 HW1.out).mono ?_
  rintro e w2 ⟨rfl, hb2⟩
  have HW2 := Lib.hid (HW1.out.below hb2)
  have HV2 := Lib.hid (HV1.out.below hb2)
  have hb := hb1.trans (hb2.mono hb1.size)
  clear hb1 hb2 HW1 HV1
  generalize lastI ls2 = b at *
  by_cases hab : a = b
  · subst hab
    have hE : (a == a && prT rs ls 0 a == prT rs2 ls2 0 a) = (prT rs ls 0 a == prT rs2 ls2 0 a) := by simp
    have hL := Lib.hid (wlength_any B n rs ls w2 hls HV2.out)
    rw [hla] at hL
    go_wp2_with fail
    refine hL.out.mono ?_
    rintro e w3 ⟨rfl, hb3⟩
    have hQ := Lib.hid (equal_any B n rs ls B2 n2 rs2 ls2 0 0 a w3 hls hls2 (HV2.out.below hb3) (HW2.out.below hb3) (by omega) (by omega) hb0)
    rw [Int.zero_add] at hQ
    generalize (prT rs ls 0 a == prT rs2 ls2 0 a) = q at *
    go_wp2_with fail
    refine hQ.out.mono ?_
    rintro e w4 ⟨rfl, hb4⟩
    have hb' := (hb.trans (hb3.mono hb.size)).trans (hb4.mono (hb.trans (hb3.mono hb.size)).size)
    clear hb hb3 hb4 hQ hL
    go_wp2_with fail
    go_ret
    exact ⟨by rw [show (a == a && q) = q by simp]; rfl, hb'⟩
  · have hE : (a == b && prT rs ls 0 a == prT rs2 ls2 0 a) = false := by
      rw [show (a == b) = decide (a = b) from Bool.beq_eq_decide_eq a b]; simp [hab]
    go_wp2_with fail
    go_ret
    exact ⟨by rw [hE]; rfl, hb⟩
theorem WvX.wv {w W : World} {B : Nat} {A : Option Addr} {n c : Nat} {L : Option Addr} {cl : Nat} {rs : List Fac} {ls : List Int} {M : Option Addr} {cm : Nat} {S : Option Addr} {cs : Nat} (h : WvW w W B A n c L cl ls M n cm S cs ((wvAll rs).map (·.1)) ((wvAll rs).map (·.2))) (hA : Rd w w.heap.size A n 3 Fac.cells rs) (hls : gOk rs = some ls) : Wv W W.heap.size B n rs ls := by
  have hl := hA.len
  have hll := (gOk_lens hls).2.2
  have hwl : (wvAll rs).length = n := by unfold wvAll; rw [full_len]; exact hl
  exact ⟨A, c, L, cl, M, cm, S, cs, h.b, h.b.lt, (hA.below h.e).more h.e.size, Rd.of_own (enc := intE) (fun _ _ => rfl) (by omega) h.l, Rd.of_own (enc := prE) (fun _ _ => rfl) (by simpa using hwl) h.m, Rd.of_own (enc := prE) (fun _ _ => rfl) (by simpa using hwl) h.s⟩
set_option maxHeartbeats 1000000 in
set_option maxRecDepth 100000 in
theorem weaves_any (A : Option Addr) (n c : Nat) (rs : List Fac) (ls : List Int) (A2 : Option Addr) (n2 c2 : Nat) (rs2 : List Fac) (ls2 : List Int) (w : World) (hn : n ≤ 400) (hn2 : n2 ≤ 400) (hr : Rd w w.heap.size A n 3 Fac.cells rs) (hr2 : Rd w w.heap.size A2 n2 3 Fac.cells rs2) (hls : gOk rs = some ls) (hls2 : gOk rs2 = some ls2) :
    Calls Try.prog 39 #[.agg #[.slice A n c], .agg #[.slice A2 n2 c2]] w (fun e w' => ∃ B B2, e = .returned (.tuple #[.pointer (some ⟨B, 0, none⟩), .pointer (some ⟨B2, 0, none⟩), .bool true]) ∧ Below w.heap.size w w' ∧ Wv w' w'.heap.size B n rs ls ∧ Wv w' w'.heap.size B2 n2 rs2 ls2) := by
  have HR := Lib.hid hr
  have HR2 := Lib.hid hr2
  clear hr hr2
  go_enter Try.func39, Try.ntmps39
  go_wp2_with fail
  refine namedC fun w1 H1 => ?_
  have hb1 : Below w.heap.size w w1 := by rw [H1.out]; (repeat first | exact Below.refl _ _ | assumption | refine Below.drew ?_ | refine Below.alloc ?_ (by first | exact Nat.le_refl _ | (simp; done) | omega | (simp; omega)) _ | refine Below.setCell ?_ (by first | exact Nat.le_refl _ | (simp; done) | omega | (simp; omega)) _)
  have B1 := Lib.hid (show Blk w1 (w.heap.size + 1) 26 #[.slice A2 n2 c2] by rw [H1.out]; simpa using Blk.new (w.alloc _) _ _)
  clear H1
  refine (newWeave_any A n c rs ls w1 hn ((HR.out.below hb1).more hb1.size) hls).mono ?_
  rintro e w2 ⟨B, L, cl, M, cm, S, cs, rfl, hW⟩
  have hv : Wv w2 w2.heap.size B n rs ls := hW.wv ((HR.out.below hb1).more hb1.size) hls
  have hb2 := hb1.trans (hW.e.mono hb1.size)
  have B2 := Lib.hid (B1.out.next hW.e)
  clear hW
  have c2' := B2.out.cell 0
  go_wp2_with fail
  clear B2 c2'
  refine (newWeave_any A2 n2 c2 rs2 ls2 w2 hn2 ((HR2.out.below hb2).more hb2.size) hls2).mono ?_
  rintro e w3 ⟨C, L2, cl2, M2, cm2, S2, cs2, rfl, hW⟩
  have hv2 : Wv w3 w3.heap.size C n2 rs2 ls2 := hW.wv ((HR2.out.below hb2).more hb2.size) hls2
  have V1 := hv.below hW.e
  have hb3 := hb2.trans (hW.e.mono hb2.size)
  have V := Lib.hid (show Below w.heap.size w w3 ∧ Wv w3 w3.heap.size B n rs ls ∧ Wv w3 w3.heap.size C n2 rs2 ls2 from ⟨hb3, V1, hv2⟩)
  clear hW hv hv2 V1 hb1 hb2 hb3
  go_wp2_with fail
  go_ret3
  exact ⟨B, C, rfl, V.out⟩
/-- the answer on two valid grammars -/
def eqT (rs : List Fac) (ls : List Int) (rs2 : List Fac) (ls2 : List Int) : Bool := lastI ls == lastI ls2 && prT rs ls 0 (lastI ls) == prT rs2 ls2 0 (lastI ls)
set_option maxHeartbeats 1000000 in
set_option maxRecDepth 100000 in
theorem equalWords_any (A : Option Addr) (n c : Nat) (rs : List Fac) (ls : List Int) (A2 : Option Addr) (n2 c2 : Nat) (rs2 : List Fac) (ls2 : List Int) (w : World) (hn : n ≤ 400) (hn2 : n2 ≤ 400) (hr : Rd w w.heap.size A n 3 Fac.cells rs) (hr2 : Rd w w.heap.size A2 n2 3 Fac.cells rs2) (hls : gOk rs = some ls) (hls2 : gOk rs2 = some ls2) :
    Calls Try.prog 13 #[.agg #[.slice A n c], .agg #[.slice A2 n2 c2]] w (Ret (.tuple #[.bool (eqT rs ls rs2 ls2), .int .i64 0]) w) := by
  have HR := Lib.hid hr
  have HR2 := Lib.hid hr2
  clear hr hr2
  go_enter Try.func13, Try.ntmps13
  go_wp2_with fail
  refine namedC fun w1 H1 => ?_
  have hb1 : Below w.heap.size w w1 := by rw [H1.out]; (repeat first | exact Below.refl _ _ | assumption | refine Below.drew ?_ | refine Below.alloc ?_ (by first | exact Nat.le_refl _ | (simp; done) | omega | (simp; omega)) _ | refine Below.setCell ?_ (by first | exact Nat.le_refl _ | (simp; done) | omega | (simp; omega)) _)
  clear H1
  refine (weaves_any A n c rs ls A2 n2 c2 rs2 ls2 w1 hn hn2 ((HR.out.below hb1).more hb1.size) ((HR2.out.below hb1).more hb1.size) hls hls2).mono ?_
  rintro e w2 ⟨B, B2, rfl, hb2, hw, hw2⟩
  have V := Lib.hid hw
  have W2 := Lib.hid hw2
  clear hw hw2
  go_wp2_with fail
  refine (wsame_any B n rs ls B2 n2 rs2 ls2 w2 hls hls2 V.out W2.out).mono ?_
  rintro e w3 ⟨rfl, hb3⟩
  have hb := hb1.trans (hb2.mono hb1.size) |>.trans (hb3.mono (hb1.trans (hb2.mono hb1.size)).size)
  clear hb1 hb2 hb3
  generalize hq : (lastI ls == lastI ls2 && prT rs ls 0 (lastI ls) == prT rs2 ls2 0 (lastI ls)) = q at *
  have hq2 : eqT rs ls rs2 ls2 = q := hq
  go_wp2_with fail
  go_ret2
  exact ⟨by rw [hq2]; rfl, hb⟩
end Go.Proofs.Ytajfjgemfnfakaa


/-
  The word of a rule, and what a fold over rules says of it.
-/
namespace Go.Proofs.Ytajfjgemfnfakaa

def wdF (k : Nat) : List Nat := [k]
def wdG (a b : List Nat) (_ : Fac) : List Nat := a ++ b
/-- the words of all rules, as numbers of letters -/
def wds (rs : List Fac) : List (List Nat) := full [] wdF wdG rs
/-- the word of a grammar -/
def wdN (rs : List Fac) : List Nat := if rs = [] then [] else (wds rs).getD (rs.length - 1) []
theorem wds_pos {rs : List Fac} (hwf : WF rs) {k : Nat} (hk : k < rs.length) : (wds rs).getD k [] ≠ [] := by
  refine full_ind (rs := rs) [] wdF wdG hwf (fun _ u => u ≠ []) (fun k r _ _ => by simp [wdF]) (fun k r a b _ _ _ _ _ _ h1 _ => ?_) k hk
  intro e
  simp only [wdG, List.append_eq_nil_iff] at e
  exact h1 e.1
theorem wds_let {rs : List Fac} (hwf : WF rs) {k : Nat} (hk : k < rs.length) : ∀ x ∈ (wds rs).getD k [], x < 4 := by
  refine full_ind (rs := rs) [] wdF wdG hwf (fun _ u => ∀ x ∈ u, x < 4) (fun k r _ h => by
    intro x hx
    simp only [wdF, List.mem_singleton] at hx
    subst hx
    exact letN_lt h) (fun k r a b _ _ _ _ _ _ h1 h2 => ?_) k hk
  intro x hx
  rcases List.mem_append.1 hx with h | h
  · exact h1 x h
  · exact h2 x h
section
variable {α : Type} {d : α} {F : Nat → α} {G : α → α → Fac → α}
/-- a fold that is a function of the word -/
theorem full_hom {rs : List Fac} (hwf : WF rs) (h : List Nat → α) (hF : ∀ k, k < 4 → F k = h [k]) (hG : ∀ u v r, u ≠ [] → v ≠ [] → (∀ x ∈ u, x < 4) → (∀ x ∈ v, x < 4) → G (h u) (h v) r = h (u ++ v)) :
    ∀ k, k < rs.length → (full d F G rs).getD k d = h ((wds rs).getD k []) := by
  intro k
  induction k using Nat.strongRecOn with
  | ind k ih =>
    intro hk
    have hr : rs[k]? = some rs[k] := List.getElem?_eq_getElem hk
    rcases hwf k _ hr with ⟨h0, ha0, ha1, hb0, hb1⟩ | ⟨c, hc, hl, _, _⟩
    · have e1 := full_pair (d := d) (F := F) (G := G) hwf hr h0
      have e2 := full_pair (d := []) (F := wdF) (G := wdG) hwf hr h0
      have ia := ih rs[k].a.toNat (by omega) (by omega)
      have ib := ih rs[k].b.toNat (by omega) (by omega)
      rw [e1, ia, ib]
      unfold wds at *
      rw [e2]
      exact hG _ _ _ (wds_pos hwf (by omega)) (wds_pos hwf (by omega)) (wds_let hwf (by omega)) (wds_let hwf (by omega))
    · have hz : rs[k].l.size ≠ 0 := by rw [hl]; show (1 : Nat) ≠ 0; omega
      have e1 := full_let (d := d) (F := F) (G := G) hr hz
      have e2 := full_let (d := []) (F := wdF) (G := wdG) hr hz
      have h4 : letN rs[k].l < 4 := by
        rw [hl, letN_one]
        have := letB_num hc
        omega
      rw [e1, hF _ h4]
      unfold wds
      rw [e2]; rfl
end
theorem lens_word {rs : List Fac} {ls : List Int} (h : gLens rs [] = some ls) {k : Nat} (hk : k < rs.length) : ls.getD k 0 = ((wds rs).getD k []).length := by
  have e := gLens_fold rs [] ls h
  have := full_hom (d := (0 : Int)) (F := lenF) (G := lenG) (wf_of h) (fun u => (u.length : Int)) (fun k _ => rfl) (fun u v r _ _ _ _ => by simp [lenG]) k hk
  rw [e]; exact this
theorem last_word {rs : List Fac} {ls : List Int} (h : gLens rs [] = some ls) : lastI ls = ((wdN rs).length : Int) := by
  have hl := gLens_len rs [] ls h
  simp only [List.length_nil, Nat.zero_add] at hl
  unfold wdN
  split
  · rename_i h0; subst h0
    obtain rfl : ls = [] := List.eq_nil_of_length_eq_zero hl
    rfl
  · rename_i h0
    have : 0 < rs.length := List.length_pos_iff.2 h0
    unfold lastI
    rw [hl]
    exact lens_word h (by omega)
/-- a word as a text -/
def txB (u : List Nat) : List UInt8 := u.map fun k => UInt8.ofNat (97 + k)
def tx (u : List Nat) : ByteArray := ⟨(txB u).toArray⟩
theorem tx_size (u : List Nat) : (tx u).size = u.length := by simp [tx, txB, ByteArray.size]
theorem tx_toList (u : List Nat) : (tx u).data.toList = txB u := rfl
theorem tx_app (u v : List Nat) : tx (u ++ v) = tx u ++ tx v := by
  apply ByteArray.ext
  apply Array.ext'
  rw [ByteArray.data_append, Array.toList_append]
  simp [tx, txB]
theorem tx_let {u : List Nat} (h : ∀ x ∈ u, x < 4) : (tx u).data.toList.all letB = true := by
  rw [tx_toList, txB, List.all_map, List.all_eq_true]
  intro x hx
  have := h x hx
  simp only [Function.comp, letB]
  have e : (UInt8.ofNat (97 + x)).toNat = 97 + x := by rw [UInt8.toNat_ofNat']; omega
  simp [e]; omega
theorem wdN_let {rs : List Fac} (hwf : WF rs) : ∀ x ∈ wdN rs, x < 4 := by
  unfold wdN
  split
  · simp
  · rename_i h0
    have : 0 < rs.length := List.length_pos_iff.2 h0
    exact wds_let hwf (by omega)
end Go.Proofs.Ytajfjgemfnfakaa


/-
  What the level grammar of a word says of its word. Plain.
-/
namespace Go.Proofs.Ytajfjgemfnfakaa

theorem pcsT_full {rs : List Fac} {ls : List Int} (hls : gOk rs = some ls) (h0 : 0 < rs.length) : pcsT ls rs 0 (lastI ls) = [rs.length - 1] := by
  obtain ⟨hgl, _, hl⟩ := gOk_lens hls
  have hb := lens_bound hgl (i := rs.length - 1) (by omega)
  have hlast : lastI ls = ls.getD (rs.length - 1) 0 := by unfold lastI; rw [hl]
  unfold pcsT
  rw [if_pos ⟨h0, by omega⟩]
  exact pcs_in (by omega) (by omega) (by omega) (by omega) (by omega)
theorem pcsT_nil {ls : List Int} (i j : Int) : pcsT ls [] i j = [] := by unfold pcsT; rw [if_neg (by simp)]
theorem mulM_zero (s : Nat) : mulM 0 s = 0 := by unfold mulM; rw [Nat.zero_mul]; rfl
theorem addM_zero {m : Nat} (h : m < 2305843009213693951) : addM 0 m = m := by unfold addM; rw [Nat.zero_add]; exact Nat.mod_eq_of_lt h
theorem prStep_zero {rs : List Fac} {k : Nat} (h : PqOk ((wvAll rs).getD k wvD)) : prStep rs (0, 0) k = ((wvAll rs).getD k wvD).1 := by
  obtain ⟨⟨h1, h2⟩, _⟩ := h
  unfold prStep plusP timesP
  rw [mulM_zero, mulM_zero, addM_zero h1, addM_zero h2]
theorem prT_full {rs : List Fac} {ls : List Int} (hls : gOk rs = some ls) (h0 : 0 < rs.length) : prT rs ls 0 (lastI ls) = ((wvAll rs).getD (rs.length - 1) wvD).1 := by
  unfold prT
  rw [pcsT_full hls h0]
  exact prStep_zero (wv_ok (wf_of (gOk_lens hls).1) _ (by omega))
theorem wvMon : Mon wvG := ⟨fun _ _ _ _ => rfl, wv_ass⟩
theorem wdMon : Mon wdG := ⟨fun _ _ _ _ => rfl, fun a b c _ => by unfold wdG; exact List.append_assoc _ _ _⟩
section
variable {rs M : List Fac} {ls ls2 : List Int}
theorem LevOk.word (h : LevOk rs M) : wdN M = wdN rs := by
  have hv := h.val _ [] wdF wdG wdMon
  have hp := h.pos
  unfold wdN
  by_cases h0 : rs = []
  · have : M.length = 0 := by subst h0; simp at hp; simp [hp]
    rw [List.eq_nil_of_length_eq_zero this, h0]
  · have h1 : 0 < rs.length := List.length_pos_iff.2 h0
    have h2 : M ≠ [] := List.length_pos_iff.1 (hp.1 h1)
    rw [if_neg h0, if_neg h2]
    exact hv
theorem LevOk.eq (h : LevOk rs M) (hls : gOk rs = some ls) (hls2 : gOk M = some ls2) : eqT rs ls M ls2 = true := by
  have hw := h.word
  have h1 := last_word (gOk_lens hls).1
  have h2 := last_word (gOk_lens hls2).1
  have e1 : lastI ls = lastI ls2 := by rw [h1, h2, hw]
  have e2 : prT rs ls 0 (lastI ls) = prT M ls2 0 (lastI ls) := by
    by_cases h0 : 0 < rs.length
    · rw [prT_full hls h0, e1, prT_full hls2 (h.pos.1 h0)]
      unfold wvAll
      rw [h.val _ wvD wvF wvG wvMon]
    · have hr : rs = [] := List.eq_nil_of_length_eq_zero (by omega)
      have hm : M = [] := List.eq_nil_of_length_eq_zero (by have := h.pos; omega)
      subst hr hm
      unfold prT
      rw [pcsT_nil, pcsT_nil]
  unfold eqT
  rw [e1.symm, e2]
  simp
/-- the depth of a grammar -/
def depT (M : List Fac) : Int := lastI (depths M)
theorem LevOk.fib (h : LevOk rs M) (hls2 : gOk M = some ls2) : (depT M = 0 ∧ (wdN M).length = 0) ∨ (1 ≤ depT M ∧ depT M ≤ 400 ∧ fbA (depT M - 1).toNat ≤ ((wdN M).length : Int)) := by
  by_cases h0 : 0 < M.length
  · right
    have hd := level_fib h.wf h.lev (M.length - 1) (by omega)
    have hb := depths_getD h.wf (i := M.length - 1) (by omega)
    have hlast : depT M = (depths M).getD (M.length - 1) 0 := by unfold depT lastI; rw [depths_len]
    obtain ⟨hgl, _, hl⟩ := gOk_lens hls2
    have h2 := last_word hgl
    have h3 : lastI ls2 = (full 0 lenF lenG M).getD (M.length - 1) 0 := by
      unfold lastI; rw [hl, gLens_fold _ _ _ hgl]
    rw [hlast, ← h2, h3]
    have := h.len
    exact ⟨hd.1, by omega, hd.2⟩
  · left
    have hm : M = [] := List.eq_nil_of_length_eq_zero (by omega)
    subst hm
    exact ⟨rfl, rfl⟩
end
end Go.Proofs.Ytajfjgemfnfakaa


/-
  slices.IndexFunc and slices.ContainsFunc over rules, by the contract of the function that they are handed.
-/
namespace Go.Proofs.Ytajfjgemfnfakaa
open Go.RowKit

def findI {α : Type} (p : α → Bool) : List α → Int → Int
  | [], _ => -1
  | x :: r, i => if p x = true then i else findI p r (i + 1)
theorem findI_any {α : Type} (p : α → Bool) : ∀ (xs : List α) (i : Int), 0 ≤ i → (decide (0 ≤ findI p xs i) = xs.any p)
  | [], i, _ => rfl
  | x :: r, i, h => by
    unfold findI
    by_cases hp : p x = true
    · rw [if_pos hp]; simp [hp, h]
    · rw [if_neg hp, findI_any p r (i + 1) (by omega)]; simp [hp]

set_option maxHeartbeats 1000000 in
theorem indexRule_any (fp : Nat) (ep : EnterOk fp) (cp : Array Value) (p : Fac → Bool) (A : Option Addr) (n c : Nat) (rs : List Fac) (w : World) (hn : n ≤ 1048576) (hr : Rd w w.heap.size A n 3 Fac.cells rs)
    (hP : ∀ (k : Nat) (x : Fac), rs[k]? = some x → ∀ w', Below w.heap.size w w' → Calls Try.prog fp (#[x.val] ++ cp) w' (Ret (.bool (p x)) w')) :
    Calls Try.prog 59 #[.slice A n c, .func (.func fp) #[] cp] w (Ret (.int .i64 (findI p rs 0)) w) := by
  have hl := Lib.hid hr.len
  have HP := Lib.hid hP; clear hP
  unfold EnterOk at ep
  go_enter Try.func59, Try.ntmps59
  go_wp2_with fail
  go_loopw [8] (fun i_ w' => ∃ k : Nat, i_ = .int .i64 k ∧ k ≤ n ∧ Below w.heap.size w w' ∧ Hid (findI p (rs.drop k) k = findI p rs 0)) (fun i_ _ => n - (intOf i_).toNat)
  case atStart => exact ⟨0, rfl, by omega, Below.refl _ _, Lib.hid rfl⟩
  case round =>
    obtain ⟨k, rfl, hk, hb, H⟩ := hrel
    by_cases hlt : k < n
    · obtain ⟨b, o, x, rfl, hB, gx, c0, c1, c2⟩ := (hr.next hb).fac hlt
      have H' := Lib.hid (show (if p x = true then (k : Int) else findI p (rs.drop (k + 1)) (k + 1)) = findI p rs 0 by rw [← H.out, drop_cons gx]; rfl)
      have hc := HP.out k x gx wr hb
      clear gx H
      rcases hp : p x with _ | _
      all_goals
        rw [hp] at hc
        have Hp := Lib.hid hp; clear hp
        have Hc := Lib.hid hc; clear hc
        go_wp2_with fail
        refine Hc.out.mono ?_
        rintro e w1 ⟨rfl, hb1⟩
        go_wp2_with fail
        first
          | (go_ret
             exact ⟨ret_int (by rw [← H'.out, Hp.out]; rfl), hb.trans (hb1.mono hb.size)⟩)
          | (go_roundw
             case rel => exact ⟨k + 1, by go_num, by omega, hb.trans (hb1.mono hb.size), Lib.hid (by rw [← H'.out, Hp.out]; rfl)⟩
             case measure => simp [intOf]; omega)
    · go_wp2_with fail
      go_ret
      exact ⟨ret_int (by rw [← H.out, List.drop_of_length_le (by rw [hl.out]; omega)]; rfl), hb⟩
theorem containsRule_any (fp : Nat) (ep : EnterOk fp) (cp : Array Value) (p : Fac → Bool) (A : Option Addr) (n c : Nat) (rs : List Fac) (w : World) (hn : n ≤ 1048576) (hr : Rd w w.heap.size A n 3 Fac.cells rs)
    (hP : ∀ (k : Nat) (x : Fac), rs[k]? = some x → ∀ w', Below w.heap.size w w' → Calls Try.prog fp (#[x.val] ++ cp) w' (Ret (.bool (p x)) w')) :
    Calls Try.prog 36 #[.slice A n c, .func (.func fp) #[] cp] w (Ret (.bool (rs.any p)) w) := by
  have e := Lib.hid (findI_any p rs 0 (by omega))
  have Hc := Lib.hid (indexRule_any fp ep cp p A n c rs w hn hr hP)
  clear hP hr
  go_enter Try.func36, Try.ntmps36
  go_wp2_with fail
  refine Hc.out.mono ?_
  rintro e1 w1 ⟨rfl, hb1⟩
  go_wp2_with fail
  go_ret
  exact ⟨ret_bool e.out, hb1⟩
end Go.Proofs.Ytajfjgemfnfakaa


/-
  A grammar trimmed by the reference.
-/
namespace Go.Proofs.Ytajfjgemfnfakaa
open Go.RowKit

/-- the reference's first round under way: what the call has made -/
structure TsW (w W : World) (k : Nat) (A5 : Option Addr) (c5 k6 : Nat) (A4 : Option Addr) (c4 : Nat) (kept : List Fac) (same : List Int) : Prop where
  r : W.ownsRow w.heap.size 59 3 (.slice A5 k c5) k (kept.flatMap Fac.cells)
  s : W.ownsRow w.heap.size 2 1 (.slice A4 k6 c4) k6 (same.flatMap intE)
  o : Blk W w.heap.size 26 #[.slice none 0 0]
  e : Below w.heap.size w W
section
variable {w W W' : World} {k k6 : Nat} {A5 : Option Addr} {c5 : Nat} {A4 : Option Addr} {c4 : Nat} {kept : List Fac} {same : List Int}
theorem TsW.next (h : TsW w W k A5 c5 k6 A4 c4 kept same) (hb : Below W.heap.size W W') : TsW w W' k A5 c5 k6 A4 c4 kept same :=
  ⟨own_next h.r hb, own_next h.s hb, h.o.next hb, h.e.trans (hb.mono h.e.size)⟩
theorem TsW.alloc (h : TsW w W k A5 c5 k6 A4 c4 kept same) (o : Obj) : TsW w (W.alloc o) k A5 c5 k6 A4 c4 kept same := h.next ((Below.refl _ _).alloc (Nat.le_refl _) _)
theorem TsW.drew (h : TsW w W k A5 c5 k6 A4 c4 kept same) : TsW w W.drew k A5 c5 k6 A4 c4 kept same := h.next (Below.refl _ _).drew
theorem TsW.pushR {A8 : Option Addr} {k8 c8 : Nat} {kept' : List Fac} (h : TsW w W k A5 c5 k6 A4 c4 kept same) (ho : W'.ownsRow w.heap.size 59 3 (.slice A8 k8 c8) k8 (kept'.flatMap Fac.cells)) (hg : W.grownBy W' (Value.slice A5 k c5).ownBlock) :
    TsW w W' k8 A8 c8 k6 A4 c4 kept' same :=
  ⟨ho, h.s.kept hg (own_ne h.s h.r (by decide)), h.o.grown hg (own_blk_ne h.r h.o (by decide)), h.e.grown hg h.e.size (own_ge h.r)⟩
theorem TsW.pushS {A8 : Option Addr} {k8 c8 : Nat} {same' : List Int} (h : TsW w W k A5 c5 k6 A4 c4 kept same) (ho : W'.ownsRow w.heap.size 2 1 (.slice A8 k8 c8) k8 (same'.flatMap intE)) (hg : W.grownBy W' (Value.slice A4 k6 c4).ownBlock) :
    TsW w W' k A5 c5 k8 A8 c8 kept same' :=
  ⟨h.r.kept hg (own_ne h.r h.s (by decide)), ho, h.o.grown hg (own_blk_ne h.s h.o (by decide)), h.e.grown hg h.e.size (own_ge h.s)⟩
/-- a block made later put -/
theorem TsW.far {Z : Nat} (h : TsW w W k A5 c5 k6 A4 c4 kept same) (hg : W.grownBy W' (some Z)) (h1 : some Z ≠ (Value.slice A5 k c5).ownBlock) (h2 : some Z ≠ (Value.slice A4 k6 c4).ownBlock) (h3 : w.heap.size < Z) : TsW w W' k A5 c5 k6 A4 c4 kept same :=
  ⟨h.r.kept hg (.inr fun e => h1 e.symm), h.s.kept hg (.inr fun e => h2 e.symm), h.o.grown hg (by intro e; injection e with e; omega), h.e.grown hg h.e.size (fun q hq => by injection hq with hq; omega)⟩
theorem TsW.bnd (h : TsW w W k A5 c5 k6 A4 c4 kept same) : (∀ q, (Value.slice A5 k c5).ownBlock = some q → q < W.heap.size) ∧ (∀ q, (Value.slice A4 k6 c4).ownBlock = some q → q < W.heap.size) ∧ w.heap.size < W.heap.size :=
  ⟨fun q hq => (h.r.lt q hq).2, fun q hq => (h.s.lt q hq).2, h.o.lt⟩
end
theorem trR_set {at_ : List Int} {x : Fac} {i : Nat} {z : Int} (h : x.l.size = 0 → 0 ≤ x.a ∧ x.a < (i : Int) ∧ 0 ≤ x.b ∧ x.b < (i : Int)) : trR (at_.set i z) x = trR at_ x := by
  unfold trR
  by_cases h0 : x.l.size = 0
  · obtain ⟨a0, a1, b0, b1⟩ := h h0
    rw [if_pos h0, if_pos h0]
    simp only [List.getD_eq_getElem?_getD]
    rw [List.getElem?_set_ne (by omega), List.getElem?_set_ne (by omega)]
  · rw [if_neg h0, if_neg h0]
theorem fac_ext {f g : Fac} (h1 : f.l.toList = g.l.toList) (h2 : f.a = g.a) (h3 : f.b = g.b) : f = g := by
  cases f; cases g
  simp only at h1 h2 h3
  rw [tl_inj.1 h1, h2, h3]
theorem news1i {W : World} {g : Nat} {t : TypeId} {v : Int} (h : Blk W g t #[.int .i64 v]) : ∀ j u, ([v].flatMap intE)[j]? = some u → W.cell? ((⟨g, 0, none⟩ : Addr).add j) = some u := by
  intro j u hj
  have e : ((⟨g, 0, none⟩ : Addr).add j) = ⟨g, j, none⟩ := by
    simp only [Addr.add, Nat.zero_add]
    by_cases h0 : j = 0
    · subst h0; rfl
    · simp [h0]
  rw [e, h.cell j]
  simpa [intE] using hj
theorem hs_step {kept : List Fac} {same : List Int} (h : ∀ (j : Nat) (x : Fac), kept[j]? = some x → same.getD j 0 = ((kept.idxOf x : Nat) : Int)) (hl : same.length = kept.length) (y : Fac) :
    ∀ (j : Nat) (x : Fac), (kept ++ [y])[j]? = some x → (same ++ [((kept.idxOf y : Nat) : Int)]).getD j 0 = (((kept ++ [y]).idxOf x : Nat) : Int) := by
  intro j x hx
  by_cases e : j < kept.length
  · rw [List.getElem?_append_left e] at hx
    rw [List.getD_eq_getElem?_getD, List.getElem?_append_left (by omega), ← List.getD_eq_getElem?_getD, h j x hx, idx_app1 (List.mem_of_getElem? hx)]
  · have hj2 := (List.getElem?_eq_some_iff.1 hx).1
    simp only [List.length_append, List.length_singleton] at hj2
    obtain rfl : j = kept.length := by omega
    rw [List.getElem?_append_right (Nat.le_refl _), Nat.sub_self] at hx
    obtain rfl : y = x := by simpa using hx
    rw [List.getD_eq_getElem?_getD, List.getElem?_append_right (by omega), hl, Nat.sub_self, idx_app2]
    rfl
set_option maxHeartbeats 4000000 in
set_option maxRecDepth 100000 in
theorem l02Trim_any (gb : Nat) (A : Option Addr) (n c : Nat) (rs : List Fac) (w : World) (hg : gb < w.heap.size) (hc : w.cell? ⟨gb, 0, none⟩ = some (.slice A n c)) (hn : n ≤ 1048576) (hr : Rd w w.heap.size A n 3 Fac.cells rs) (hwf : WF rs) :
    Calls Try.prog 34 #[.pointer (some ⟨gb, 0, none⟩)] w (RetG w (trimL rs)) := by
  have hl := Lib.hid hr.len
  have HR := Lib.hid hr; clear hr
  have HWF := Lib.hid hwf; clear hwf
  have HC := Lib.hid (fun (W : World) (h : Below w.heap.size w W) => (h.cell (p := ⟨gb, 0, none⟩) hg).trans hc)
  go_enter Try.func34, Try.ntmps34
  go_wp2_with fail
  refine named fun w0 H0 => ?_
  have T0 : TsW w w0 0 (some ⟨w.heap.size + 1 + 1, 0, none⟩) 0 0 (some ⟨w.heap.size + 1, 0, none⟩) 0 [] [] := by
    rw [H0.out]
    refine ⟨?_, ?_, ?_, by (repeat first | exact Below.refl _ _ | assumption | refine Below.drew ?_ | refine Below.alloc ?_ (by first | exact Nat.le_refl _ | (simp; done) | omega | (simp; omega)) _ | refine Below.setCell ?_ (by first | exact Nat.le_refl _ | (simp; done) | omega | (simp; omega)) _)⟩
    · have h := World.ownsRow_made (base := w.heap.size) (e := 59) (size := 3) ((w.alloc (.cells #[.slice none 0 0] 26)).alloc (.cells #[] 2)) #[] 0 (by simp; omega) (by unfold maxLen; omega) rfl
      simpa using h
    · have h := World.ownsRow_made (base := w.heap.size) (e := 2) (size := 1) (w.alloc (.cells #[.slice none 0 0] 26)) #[] 0 (by simp) (by unfold maxLen; omega) rfl
      simpa using h.alloc _
    · exact ((Blk.new w _ _).alloc _).alloc _
  have T0' := Lib.hid T0
  clear T0 H0
  go_loopw [4, 5, 6] (fun s_ r_ i_ w' => ∃ (k : Nat) (A4 : Option Addr) (c4 : Nat) (A5 : Option Addr) (c5 : Nat) (kept : List Fac) (same : List Int), i_ = .int .i64 k ∧ s_ = .slice A4 k c4 ∧ r_ = .slice A5 k c5 ∧ k ≤ n ∧ Hid (TsW w w' k A5 c5 k A4 c4 kept same) ∧
      Hid (∀ (j : Nat) (x : Fac), kept[j]? = some x → same.getD j 0 = ((kept.idxOf x : Nat) : Int)) ∧ Hid (TrI kept same) ∧ Hid (kept.length = k) ∧ Hid (trK (rs.drop k) kept same = trK rs [] [])) (fun _ _ i_ _ => n - (intOf i_).toNat)
  case atStart => exact ⟨0, _, 0, _, 0, [], [], rfl, rfl, rfl, by omega, T0', Lib.hid (fun j x h => by simp at h), Lib.hid TrI.nil, Lib.hid rfl, Lib.hid rfl⟩
  case round =>
    obtain ⟨k, A4, c4, A5, c5, kept, same, rfl, rfl, rfl, hk, TR, HS, HI, hkl, HK⟩ := hrel
    have cg := HC.out wr TR.out.e
    by_cases hlt : k < n
    · obtain ⟨b, o, x, rfl, hB, gx, c0, c1, c2⟩ := (HR.out.below TR.out.e).fac hlt
      have hBr : b < wr.heap.size := by have := TR.out.e.size; omega
      have Hstep := Lib.hid (trK_take rs gx HK.out)
      have HI2 := Lib.hid (HI.out.step HWF.out (by rw [hkl.out]; exact gx))
      have hsl := Lib.hid (HI.out.len.trans hkl.out)
      have Gx := Lib.hid gx
      clear gx
      go_upto_if 37 with fail
      refine named fun w1 H1 => ?_
      have BX1 := Lib.hid (show Blk w1 wr.heap.size 59 #[.string x.l, .int .i64 x.a, .int .i64 x.b] by rw [H1.out]; exact Blk.new wr _ _)
      have TR1 := Lib.hid (show TsW w w1 k A5 c5 k A4 c4 kept same by rw [H1.out]; exact TR.out.alloc _)
      have nbR := Lib.hid (show some wr.heap.size ≠ (Value.slice A5 k c5).ownBlock from fun e => by have := TR.out.bnd.1 _ e.symm; omega)
      have nbS := Lib.hid (show some wr.heap.size ≠ (Value.slice A4 k c4).ownBlock from fun e => by have := TR.out.bnd.2.1 _ e.symm; omega)
      have zZ := TR.out.bnd.2.2
      have cgb : gb < wr.heap.size := by omega
      clear H1 c0 c1 c2
      generalize wr.heap.size = Z at *
      go_cut [] (fun wx => Hid (TsW w wx k A5 c5 k A4 c4 kept same) ∧ Hid (Blk wx Z 59 #[.string (trR same x).l, .int .i64 (trR same x).a, .int .i64 (trR same x).b]))
      case first =>
        rcases HWF.out k x Gx.out with ⟨h0, ha0, ha1, hb0, hb1⟩ | ⟨cc, hcc, hxl, hxa, hxb⟩
        · have e0 := size0 h0
          have he : x.l.toList.isEmpty = true := by rw [size0 h0]; rfl
          have Hy := Lib.hid (show trR same x = ⟨⟨#[]⟩, same.getD x.a.toNat 0, same.getD x.b.toNat 0⟩ by unfold trR; rw [if_pos h0])
          obtain ⟨g4, cp4, hv4, hg40, hg41⟩ := TR1.out.s.form (by omega)
          obtain rfl : A4 = some ⟨g4, 0, none⟩ := by injection hv4
          have va : w1.cell? ⟨g4, x.a.toNat, none⟩ = some (.int .i64 (same.getD x.a.toNat 0)) := by
            have := own_at (sz := 1) (enc := intE) (fun _ _ => rfl) TR1.out.s hsl.out 0 x.a.toNat (by omega) 0 (by omega)
            rw [Nat.mul_one, Nat.add_zero] at this; exact this
          have vb : w1.cell? ⟨g4, x.b.toNat, none⟩ = some (.int .i64 (same.getD x.b.toNat 0)) := by
            have := own_at (sz := 1) (enc := intE) (fun _ _ => rfl) TR1.out.s hsl.out 0 x.b.toNat (by omega) 0 (by omega)
            rw [Nat.mul_one, Nat.add_zero] at this; exact this
          generalize same.getD x.a.toNat 0 = sa at *
          generalize same.getD x.b.toNat 0 = sb at *
          obtain ⟨d0, d1, d2⟩ := BX1.out.three
          have lx := BX1.out.lt
          have fx := BX1.out.frozen
          have i1 : x.a < (k : Int) := ha1
          have i2 : x.b < (k : Int) := hb1
          clear hv4
          simp only [he]
          clear he e0
          go_wp2_with fail
          go_region
          all_goals
            go_wp2_with fail
            go_meet
            have BY := ((BX1.out.set_ 0 (.string .empty)).set_ 1 (.int .i64 sa)).set_ 2 (.int .i64 sb)
            have hgm := gb_setCell (gb_setCell (gb_set w1 Z 0 (.string .empty)) 1 (.int .i64 sa)) 2 (.int .i64 sb)
            refine ⟨Lib.hid (TR1.out.far hgm nbR.out nbS.out (by omega)).drew, Lib.hid ?_⟩
            rw [Hy.out]; exact BY.drew
        · have e0 : x.l.toList ≠ [] := size1 (by rw [hxl]; show (1 : Nat) ≠ 0; omega)
          have he : x.l.toList.isEmpty = false := by rw [List.isEmpty_eq_false_iff]; exact e0
          have Hy := Lib.hid (show trR same x = x by unfold trR; rw [if_neg (by rw [hxl]; show (1 : Nat) ≠ 0; omega)])
          clear hxl hxa hxb
          simp only [he]
          clear he e0
          go_wp2_with fail
          go_meet
          exact ⟨TR1, by rw [Hy.out]; exact BX1⟩
      case rest =>
        obtain ⟨TR2, BX2⟩ := hcut
        clear TR1 BX1
        generalize trR same x = y at *
        have hik : kept.idxOf y ≤ k := by have := List.idxOf_le_length (a := y) (l := kept); have := hkl.out; omega
        go_upto_block 2 with fail
        refine named fun w2 H2 => ?_
        have TR3 := Lib.hid (show TsW w w2 k A5 c5 k A4 c4 kept same by rw [H2.out]; exact TR2.out)
        have BX3 := Lib.hid (show Blk w2 Z 59 #[.string y.l, .int .i64 y.a, .int .i64 y.b] by rw [H2.out]; exact BX2.out)
        clear H2 TR2 BX2
        go_cut [8] (fun o_ wx => o_ = .int .i64 ((kept.idxOf y : Nat) : Int) ∧ Hid (TsW w wx k A5 c5 k A4 c4 kept same) ∧ Hid (Blk wx Z 59 #[.string y.l, .int .i64 y.a, .int .i64 y.b]))
        case first =>
          go_wp2_with fail
          go_loopw [8, 9] (fun o_ j_ w' => ∃ (own j : Nat), o_ = .int .i64 own ∧ j_ = .int .i64 j ∧ j ≤ k ∧ own ≤ k ∧ Hid (TsW w w' k A5 c5 k A4 c4 kept same) ∧ Hid (Blk w' Z 59 #[.string y.l, .int .i64 y.a, .int .i64 y.b]) ∧
            Hid ((own = k ∧ ∀ q, q < j → ¬ (same.getD q 0 = (q : Int) ∧ kept[q]? = some y)) ∨ (own < k ∧ kept[own]? = some y ∧ same.getD own 0 = (own : Int)))) (fun _ j_ _ => k - (intOf j_).toNat)
          case atStart => exact ⟨k, 0, rfl, rfl, by omega, by omega, TR3, BX3, Lib.hid (.inl ⟨rfl, fun q hq => absurd hq (by omega)⟩)⟩
          case round =>
            obtain ⟨own, j, rfl, rfl, hj, how, T4, B4, HQ⟩ := hrel
            by_cases hlt2 : j < k
            · rcases HQ.out with ⟨hok, hno⟩ | ⟨hok, hfo, hsf⟩
              · obtain rfl : k = own := hok.symm
                have HN := Lib.hid hno
                clear hno HQ
                obtain ⟨g4, cp4, hv4, hg40, hg41⟩ := T4.out.s.form (by omega)
                obtain rfl : A4 = some ⟨g4, 0, none⟩ := by injection hv4
                obtain ⟨g5, cp5, hv5, hg50, hg51⟩ := T4.out.r.form (by omega)
                obtain rfl : A5 = some ⟨g5, 0, none⟩ := by injection hv5
                have va : wr.cell? ⟨g4, j, none⟩ = some (.int .i64 (same.getD j 0)) := by
                  have := own_at (sz := 1) (enc := intE) (fun _ _ => rfl) T4.out.s hsl.out 0 j (by omega) 0 (by omega)
                  rw [Nat.mul_one, Nat.add_zero] at this; exact this
                obtain ⟨x', hx'⟩ : ∃ x', kept[j]? = some x' := ⟨_, List.getElem?_eq_getElem (by have := hkl.out; omega)⟩
                have hxd : kept.getD j default = x' := by rw [List.getD_eq_getElem?_getD, hx']; rfl
                have cel := fun (q : Nat) (hq : q < 3) => own_at (sz := 3) (enc := Fac.cells) (fun _ _ => rfl) T4.out.r hkl.out default j (by omega) q hq
                rw [hxd] at cel
                have c0 : wr.cell? ⟨g5, j * 3, none⟩ = some (.string x'.l) := cel 0 (by omega)
                have c1 : wr.cell? ⟨g5, j * 3 + 1, none⟩ = some (.int .i64 x'.a) := cel 1 (by omega)
                have c2 : wr.cell? ⟨g5, j * 3 + 2, none⟩ = some (.int .i64 x'.b) := cel 2 (by omega)
                have HX := Lib.hid hx'
                obtain ⟨e0, e1, e2⟩ := B4.out.three
                clear cel hxd hx' hv4 hv5
                obtain ⟨sj, hsj⟩ : ∃ sj, same.getD j 0 = sj := ⟨_, rfl⟩
                rw [hsj] at va
                have HSJ := Lib.hid hsj
                clear hsj
                by_cases hss : sj = (j : Int)
                · subst hss
                  by_cases hxy : x' = y
                  · subst hxy
                    go_wp2_with fail
                    go_region
                    all_goals
                      go_wp2_with fail
                      go_roundw
                      case rel => exact ⟨j, j + 1, rfl, by go_num, by omega, by omega, Lib.hid T4.out.drew, Lib.hid B4.out.drew, Lib.hid (.inr ⟨hlt2, HX.out, HSJ.out⟩)⟩
                      case measure => first | (simp [intOf]; done) | (simp [intOf]; omega)
                  · have hcase : x'.l.toList ≠ y.l.toList ∨ (x'.l.toList = y.l.toList ∧ x'.a ≠ y.a) ∨ (x'.l.toList = y.l.toList ∧ x'.a = y.a ∧ x'.b ≠ y.b) := by
                      by_cases h1 : x'.l.toList = y.l.toList
                      · by_cases h2 : x'.a = y.a
                        · by_cases h3 : x'.b = y.b
                          · exact absurd (fac_ext h1 h2 h3) hxy
                          · exact .inr (.inr ⟨h1, h2, h3⟩)
                        · exact .inr (.inl ⟨h1, h2⟩)
                      · exact .inl h1
                    have HXY := Lib.hid hxy
                    clear hxy
                    rcases hcase with h1 | ⟨h1, h2⟩ | ⟨h1, h2, h3⟩
                    all_goals
                      go_wp2_with fail
                      go_region
                      all_goals
                        go_wp2_with fail
                        go_roundw
                        case rel =>
                          refine ⟨k, j + 1, rfl, by go_num, by omega, by omega, Lib.hid T4.out.drew, Lib.hid B4.out.drew, Lib.hid (.inl ⟨rfl, fun q hq => ?_⟩)⟩
                          rcases Nat.lt_or_ge q j with h | h
                          · exact HN.out q h
                          · obtain rfl : q = j := by omega
                            rintro ⟨-, hh⟩
                            exact HXY.out (by have := HX.out.symm.trans hh; injection this)
                        case measure => first | (simp [intOf]; done) | (simp [intOf]; omega)
                · have hne : (sj == (j : Int)) = false := by simpa using hss
                  go_wp2_with fail
                  go_region
                  all_goals
                    go_wp2_with fail
                    go_roundw
                    case rel =>
                      refine ⟨k, j + 1, rfl, by go_num, by omega, by omega, Lib.hid T4.out.drew, Lib.hid B4.out.drew, Lib.hid (.inl ⟨rfl, fun q hq => ?_⟩)⟩
                      rcases Nat.lt_or_ge q j with h | h
                      · exact HN.out q h
                      · obtain rfl : q = j := by omega
                        rintro ⟨h1, -⟩
                        exact hss (HSJ.out.symm.trans h1)
                    case measure => first | (simp [intOf]; done) | (simp [intOf]; omega)
              · have hne : ((own : Int) == (k : Int)) = false := by simp; omega
                have hid := HS.out own y hfo
                rw [hsf] at hid
                have HID := Lib.hid hid
                clear hid hfo hsf
                go_wp2_with fail
                go_meet
                exact ⟨by rw [HID.out], T4, B4⟩
            · obtain rfl : k = j := by omega
              rcases HQ.out with ⟨hok, hno⟩ | ⟨hok, hfo, hsf⟩
              · obtain rfl : k = own := hok.symm
                have hnm : y ∉ kept := fun hm => by
                  have h1 : kept.idxOf y < kept.length := List.idxOf_lt_length_iff.2 hm
                  have h2 : kept[kept.idxOf y]? = some y := by rw [List.getElem?_eq_getElem h1, List.getElem_idxOf]
                  exact hno _ (by rw [hkl.out] at h1; exact h1) ⟨HS.out _ _ h2, h2⟩
                have HID := Lib.hid (show kept.idxOf y = k by rw [List.idxOf_eq_length hnm, hkl.out])
                clear hno hnm HQ
                go_wp2_with fail
                go_meet
                exact ⟨by rw [HID.out], T4, B4⟩
              · have hid := HS.out own y hfo
                rw [hsf] at hid
                have HID := Lib.hid hid
                clear hid hfo hsf HQ
                go_wp2_with fail
                go_meet
                exact ⟨by rw [HID.out], T4, B4⟩
        case rest =>
          obtain ⟨rfl, TR2, BX2⟩ := hcut
          have HS2 := Lib.hid (hs_step HS.out HI.out.len y)
          generalize hvz : ((kept.idxOf y : Nat) : Int) = v at *
          have TA := Lib.hid (TR2.out.alloc (.cells #[.int .i64 v] 2))
          have BA := Lib.hid (BX2.out.alloc (.cells #[.int .i64 v] 2))
          go_wp2_with
            (first
              | (at_builtin
                 refine wpList_app rfl _ _ _ rfl w.heap.size 2 1 8 elem_int intE A4 k c4 same rfl TA.out.s ⟨wc.heap.size, 0, none⟩ 1 1 [v] rfl rfl (by omega) (news1i (Blk.new wc 2 #[.int .i64 v])) (fun _ _ => rfl) (by simp [intE, Value.oneCell']) (by omega) (by omega) (by unfold maxLen; omega) TA.out.e.size ?_
                 intro A8 c8 w8 own8 hg8 hat8
                 have TB := Lib.hid (TA.out.pushS own8 hg8)
                 have BB := Lib.hid (BA.out.grown hg8 nbS.out)
                 obtain ⟨d0, d1, d2⟩ := BB.out.three
                 have lx := BB.out.lt
                 have TC := Lib.hid (TB.out.alloc (.cells #[.string y.l, .int .i64 y.a, .int .i64 y.b] 59))
                 clear own8 hg8 hat8)
              | (at_builtin
                 refine wpList_app rfl _ _ _ rfl w.heap.size 59 3 32 elem_rule Fac.cells A5 k c5 kept rfl TC.out.r ⟨w8.heap.size, 0, none⟩ 1 1 [y] rfl rfl (by omega) (news1 (Blk.new w8 59 #[.string y.l, .int .i64 y.a, .int .i64 y.b])) (fun x _ => fac_len x) (fun x _ => one_fac x) (by omega) (by omega) (by unfold maxLen; omega) TC.out.e.size ?_
                 intro A9 c9 w9 own9 hg9 hat9
                 have TD := Lib.hid (TC.out.pushR own9 hg9)
                 clear own9 hg9 hat9))
          go_roundw
          case rel => exact ⟨k + 1, A8, c8, A9, c9, kept ++ [y], same ++ [v], by go_num, rfl, rfl, by omega, TD, HS2, HI2, Lib.hid (by rw [List.length_append, hkl.out]; rfl), Hstep⟩
          case measure => first | (simp [intOf]; done) | (simp [intOf]; omega)
    · obtain rfl : k = n := by omega
      have HA := Lib.hid (trK_all (by rw [hl.out]; omega) HK.out)
      have mkB := fun W => makeB k W (by omega)
      go_upto_if 86 with fail
      refine named fun w2 H2 => ?_
      have TU := Lib.hid (show TsW w w2 k A5 c5 k A4 c4 kept same by rw [H2.out]; exact TR.out.alloc _)
      have BU := Lib.hid (show Blk w2 wr.heap.size 4 (boolA (List.replicate k false)) by rw [H2.out]; exact Blk.new wr _ _)
      have hbd := Lib.hid TR.out.bnd
      clear H2 TR mkB
      generalize wr.heap.size = U at *
      go_cut [] (fun wx => ∃ u, Hid (TsW w wx k A5 c5 k A4 c4 kept same) ∧ Hid (Blk wx U 4 (boolA u)) ∧ Hid (u.length = k) ∧ Hid (trimL rs = outT (useT kept k u) 0 kept [] (List.replicate k 0)))
      case first =>
        rcases Nat.eq_zero_or_pos k with hk0 | hk0
        · have hkey := Lib.hid (show trimL rs = outT (useT kept k (List.replicate k false)) 0 kept [] (List.replicate k 0) by
            unfold trimL
            rw [if_pos (by rw [hl.out]; exact hk0), List.eq_nil_of_length_eq_zero (hkl.out.trans hk0)]
            rfl)
          have hlt0 : ¬ (0 : Int) < (k : Int) := by omega
          clear hk0
          go_wp2_with fail
          go_meet
          exact ⟨_, TU, BU, Lib.hid (by simp), hkey⟩
        · have hI := HI.out
          have sv := hI.s (k - 1) (by have := hkl.out; omega)
          obtain ⟨g4, cp4, hv4, hg40, hg41⟩ := TU.out.s.form (by omega)
          obtain rfl : A4 = some ⟨g4, 0, none⟩ := by injection hv4
          have cs : w2.cell? ⟨g4, k - 1, none⟩ = some (.int .i64 (same.getD (k - 1) 0)) := by
            have := own_at (sz := 1) (enc := intE) (fun _ _ => rfl) TU.out.s (hI.len.trans hkl.out) 0 (k - 1) (by omega) 0 (by omega)
            rw [Nat.mul_one, Nat.add_zero] at this; exact this
          have hkey := Lib.hid (show trimL rs = outT (useT kept k ((List.replicate k false).set (same.getD (k - 1) 0).toNat true)) 0 kept [] (List.replicate k 0) by
            unfold trimL
            rw [← HA.out, hl.out, if_neg (by omega)]
            rfl)
          generalize same.getD (k - 1) 0 = z at *
          obtain ⟨z0, z1⟩ := sv
          have u1 : IntKind.i64.wrap ((k : Int) - 1) = (k : Int) - 1 := IntWalk.i64_in _ (by omega)
          have z2 : z < (k : Int) := by omega
          have j0 : (0 : Int) ≤ (k : Int) - 1 := by omega
          have j1 : (k : Int) - 1 < (k : Int) := by omega
          have jn : ((k : Int) - 1).toNat = k - 1 := by omega
          have bz := BU.out.cell z.toNat
          rw [boolA_at _ (by rw [List.length_replicate]; omega)] at bz
          have fz := BU.out.frozen
          have zk : z.toNat < k := by omega
          have hk1 : (0 : Int) < (k : Int) := by omega
          clear hv4 hI
          go_wp2_with fail
          go_meet
          have B6 := BU.out.set_ z.toNat (.bool true)
          rw [boolA_set] at B6
          refine ⟨(List.replicate k false).set z.toNat true, ?_, Lib.hid B6, Lib.hid (by simp), hkey⟩
          exact (Lib.hid (TU.out.far (gb_set w2 U _ _) (fun e => by have := hbd.out.1 _ e.symm; omega) (fun e => by have := hbd.out.2.1 _ e.symm; omega) hbd.out.2.2))
      case rest =>
        obtain ⟨u0, TV, BV, hu0, key0⟩ := hcut
        clear TU BU
        have u1 : IntKind.i64.wrap ((k : Int) - 1) = (k : Int) - 1 := IntWalk.i64_in _ (by omega)
        go_wp2_with fail
        refine named fun w3 H3 => ?_
        have TW := Lib.hid (show TsW w w3 k A5 c5 k A4 c4 kept same by rw [H3.out]; exact TV.out)
        have BW := Lib.hid (show Blk w3 U 4 (boolA u0) by rw [H3.out]; exact BV.out)
        clear H3 TV BV
        go_loopw [11] (fun j_ w' => ∃ (j : Nat) (u : List Bool) (y : Int), j_ = .int .i64 y ∧ y + 1 = (j : Int) ∧ j ≤ k ∧ Hid (TsW w w' k A5 c5 k A4 c4 kept same) ∧ Hid (Blk w' U 4 (boolA u)) ∧ Hid (u.length = k) ∧
          Hid (useT kept j u = useT kept k u0)) (fun j_ _ => (intOf j_ + 1).toNat)
        case atStart => exact ⟨k, _, _, rfl, by omega, Nat.le_refl _, TW, BW, hu0, Lib.hid rfl⟩
        case round =>
          obtain ⟨j, u, y, rfl, hy, hj, T2, B2, hu, HU⟩ := hrel
          rcases j with _ | i
          · obtain rfl : y = -1 := by omega
            have e := HU.out
            rw [show useT kept 0 u = u from rfl] at e
            have key := Lib.hid (show trimL rs = outT u 0 kept [] (List.replicate k 0) by rw [key0.out, ← e])
            have ulen := hu
            clear e HU hy hj key0
            have mkN := fun W => makeN k W (by omega)
            go_wp2_with fail
            refine named fun w4 H4 => ?_
            have lo := T2.out.o.lt
            have lu := B2.out.lt
            have n6 := T2.out.bnd.1
            have O1 : OutW w.heap.size w w4 A5 c5 k kept (wr.heap.size + 2) U u wr.heap.size (List.replicate k 0) (wr.heap.size + 1) none 0 0 [] := by
              rw [H4.out]
              have hb : Below wr.heap.size wr ((wr.alloc (.cells (intA (List.replicate k 0)) 2)).alloc (.cells #[.slice none 0 0] 26)) := ((Below.refl _ _).alloc (Nat.le_refl _) _).alloc (by simp) _
              have T5 := T2.out.next hb
              refine ⟨T5.r, B2.out.next hb, (Blk.new wr _ _).alloc _, ?_, T5.o, World.ownsRow_nil _ _ _ _, T5.e, Nat.le_refl _, by omega, by omega, by have := T2.out.e.size; have := hbd.out.2.2; omega, by omega, by simp, fun q hq => by have := n6 q hq; omega⟩
              have h := Blk.new (wr.alloc (.cells (intA (List.replicate k 0)) 2)) 26 #[.slice none 0 0]
              rw [show (wr.alloc (.cells (intA (List.replicate k 0)) 2)).heap.size = wr.heap.size + 1 by simp] at h
              exact h
            have O1' := Lib.hid O1
            clear O1 H4 T2 B2 n6 lo lu mkN hbd
            generalize hB : wr.heap.size + 1 = B at *
            have hB' := Lib.hid hB
            clear hB
            generalize wr.heap.size = V at *
            generalize V + 2 = X at *
            go_loopw [14] (fun i_ w' => ∃ (i nn : Nat) (A7 : Option Addr) (c7 : Nat) (out : List Fac) (at_ : List Int), i_ = .int .i64 i ∧ i ≤ k ∧ nn ≤ i ∧ Hid (OutW w.heap.size w w' A5 c5 k kept X U u V at_ B A7 nn c7 out) ∧ Hid (out.length = nn) ∧ Hid (at_.length = k) ∧
              Hid (outT u i (kept.drop i) out at_ = outT u 0 kept [] (List.replicate k 0))) (fun i_ _ => k - (intOf i_).toNat)
            case atStart =>
              exact ⟨0, 0, none, 0, [], _, rfl, by omega, by omega, O1', Lib.hid rfl, Lib.hid (by simp), Lib.hid rfl⟩
            case round =>
              obtain ⟨i, nn, A7, c7, out, at_, rfl, hi, hnn, O2, hol, hal, HO⟩ := hrel
              by_cases hlt : i < k
              · obtain ⟨g5, cp5, hv5, hg50, hg51⟩ := O2.out.r.form (by omega)
                obtain rfl : A5 = some ⟨g5, 0, none⟩ := by injection hv5
                obtain ⟨x, hx⟩ : ∃ x, kept[i]? = some x := ⟨_, List.getElem?_eq_getElem (by have := hkl.out; omega)⟩
                have hxd : kept.getD i default = x := by rw [List.getD_eq_getElem?_getD, hx]; rfl
                have cel := fun (q : Nat) (hq : q < 3) => own_at (sz := 3) (enc := Fac.cells) (fun _ _ => rfl) O2.out.r hkl.out default i (by omega) q hq
                rw [hxd] at cel
                have c0 : wr.cell? ⟨g5, i * 3, none⟩ = some (.string x.l) := cel 0 (by omega)
                have c1 : wr.cell? ⟨g5, i * 3 + 1, none⟩ = some (.int .i64 x.a) := cel 1 (by omega)
                have c2 : wr.cell? ⟨g5, i * 3 + 2, none⟩ = some (.int .i64 x.b) := cel 2 (by omega)
                have nV : V ≠ g5 := fun e => own_blk_ne O2.out.r O2.out.v (by decide) (by rw [e]; rfl)
                have nBV : B ≠ V := by have := hB'.out; omega
                clear cel hxd hv5
                have bu := O2.out.u.cell i
                rw [boolA_at u (i := i) (by have := ulen.out; omega)] at bu
                have ho := HO.out
                rw [drop_cons hx] at ho
                have HX := Lib.hid hx
                obtain ⟨ub, hub⟩ : ∃ ub, u.getD i false = ub := ⟨_, rfl⟩
                rw [hub] at bu
                have Hub := Lib.hid hub
                clear hub hx
                cases ub
                · have e : outT u (i + 1) (kept.drop (i + 1)) out at_ = outT u 0 kept [] (List.replicate k 0) := by
                    rw [← ho, outT, if_neg (by rw [Hub.out]; simp)]
                  have E := Lib.hid e
                  clear e ho
                  go_wp2_with fail
                  go_roundw
                  case rel => exact ⟨i + 1, nn, A7, c7, out, at_, by go_num, by omega, by omega, O2, hol, hal, E⟩
                  case measure => first | (simp [intOf]; done) | (simp [intOf]; omega)
                · have e : outT u (i + 1) (kept.drop (i + 1)) (out ++ [trR at_ x]) (at_.set i (nn : Int)) = outT u 0 kept [] (List.replicate k 0) := by
                    rw [← ho, outT, if_pos Hub.out, hol.out]
                  have E := Lib.hid e
                  clear e ho
                  have Hset := Lib.hid (show trR (at_.set i (nn : Int)) x = trR at_ x from trR_set (fun h0 => by
                    rcases HI.out.k i x HX.out with ⟨_, ha0, ha1, hb0, hb1⟩ | ⟨cc, hcc, hxl, hxa, hxb⟩
                    · exact ⟨ha0, ha1, hb0, hb1⟩
                    · rw [hxl] at h0; exact absurd h0 (show (1 : Nat) ≠ 0 by omega)))
                  have f5 := O2.out.v.frozen
                  have v5 := O2.out.v.cell i
                  rw [intA_at at_ (by have := hal.out; omega)] at v5
                  have b5 := O2.out.b.cell 0
                  go_upto_if 151 with fail
                  refine named fun w1 H1 => ?_
                  have O3 := Lib.hid (show OutW w.heap.size w w1 (some ⟨g5, 0, none⟩) c5 k kept X U u V (at_.set i (nn : Int)) B A7 nn c7 out by rw [H1.out]; exact (O2.out.tell i (nn : Int)).alloc _)
                  have BX1 := Lib.hid (show Blk w1 wr.heap.size 59 #[.string x.l, .int .i64 x.a, .int .i64 x.b] by
                    rw [H1.out]
                    have h := Blk.new (wr.setCell ⟨V, i, none⟩ (.int .i64 (nn : Int))) 59 #[.string x.l, .int .i64 x.a, .int .i64 x.b]
                    rw [show (wr.setCell ⟨V, i, none⟩ (.int .i64 (nn : Int))).heap.size = wr.heap.size by simp] at h
                    exact h)
                  have q1 : some wr.heap.size ≠ (Value.slice (some ⟨g5, 0, none⟩) k c5).ownBlock := fun e => by have := (O2.out.r.lt _ e.symm).2; omega
                  have q2 : some wr.heap.size ≠ (Value.slice A7 nn c7).ownBlock := fun e => by have := (O2.out.q.lt _ e.symm).2; omega
                  have q3 := O2.out.u.lt
                  have q4 := O2.out.v.lt
                  have q5 := O2.out.b.lt
                  have q6 := O2.out.o.lt
                  have Q1 := Lib.hid q1
                  have Q2 := Lib.hid q2
                  clear q1 q2 H1 c0 c1 c2 bu v5 f5 b5
                  generalize wr.heap.size = Z at *
                  go_cut [] (fun wx => Hid (OutW w.heap.size w wx (some ⟨g5, 0, none⟩) c5 k kept X U u V (at_.set i (nn : Int)) B A7 nn c7 out) ∧ Hid (Blk wx Z 59 #[.string (trR at_ x).l, .int .i64 (trR at_ x).a, .int .i64 (trR at_ x).b]))
                  case first =>
                    rcases HI.out.k i x HX.out with ⟨h0, ha0, ha1, hb0, hb1⟩ | ⟨cc, hcc, hxl, hxa, hxb⟩
                    · have e0 := size0 h0
                      have he : x.l.toList.isEmpty = true := by rw [e0]; rfl
                      have Hy := Lib.hid (show trR at_ x = ⟨⟨#[]⟩, (at_.set i (nn : Int)).getD x.a.toNat 0, (at_.set i (nn : Int)).getD x.b.toNat 0⟩ by rw [← Hset.out]; unfold trR; rw [if_pos h0])
                      have va := O3.out.v.cell x.a.toNat
                      rw [intA_at _ (by rw [List.length_set]; have := hal.out; omega)] at va
                      have vb := O3.out.v.cell x.b.toNat
                      rw [intA_at _ (by rw [List.length_set]; have := hal.out; omega)] at vb
                      obtain ⟨sa, hsa⟩ : ∃ sa, (at_.set i (nn : Int)).getD x.a.toNat 0 = sa := ⟨_, rfl⟩
                      obtain ⟨sb, hsb⟩ : ∃ sb, (at_.set i (nn : Int)).getD x.b.toNat 0 = sb := ⟨_, rfl⟩
                      rw [hsa] at va
                      rw [hsb] at vb
                      have Hy2 := Lib.hid (show trR at_ x = ⟨⟨#[]⟩, sa, sb⟩ by rw [Hy.out, hsa, hsb])
                      obtain ⟨d0, d1, d2⟩ := BX1.out.three
                      have lx := BX1.out.lt
                      have fx := BX1.out.frozen
                      have i1 : x.a < (k : Int) := by omega
                      have i2 : x.b < (k : Int) := by omega
                      clear hsa hsb Hy
                      simp only [he]
                      clear he e0
                      go_wp2_with fail
                      go_region
                      all_goals
                        go_wp2_with fail
                        go_meet
                        have BY := ((BX1.out.set_ 0 (.string .empty)).set_ 1 (.int .i64 sa)).set_ 2 (.int .i64 sb)
                        have hgm := gb_setCell (gb_setCell (gb_set w1 Z 0 (.string .empty)) 1 (.int .i64 sa)) 2 (.int .i64 sb)
                        refine ⟨Lib.hid (O3.out.far hgm Q1.out Q2.out (by omega) (by omega) (by omega) (by omega)).drew, Lib.hid ?_⟩
                        rw [Hy2.out]; exact BY.drew
                    · have e0 : x.l.toList ≠ [] := size1 (by rw [hxl]; show (1 : Nat) ≠ 0; omega)
                      have he : x.l.toList.isEmpty = false := by rw [List.isEmpty_eq_false_iff]; exact e0
                      have Hy := Lib.hid (show trR at_ x = x by unfold trR; rw [if_neg (by rw [hxl]; show (1 : Nat) ≠ 0; omega)])
                      clear hxl hxa hxb
                      simp only [he]
                      clear he e0
                      go_wp2_with fail
                      go_meet
                      exact ⟨O3, by rw [Hy.out]; exact BX1⟩
                  case rest =>
                    obtain ⟨O5, BX5⟩ := hcut
                    clear O3 BX1
                    generalize trR at_ x = y at *
                    have b5 := O5.out.b.cell 0
                    obtain ⟨e0, e1, e2⟩ := BX5.out.three
                    have O7 := Lib.hid (O5.out.alloc (.cells #[.string y.l, .int .i64 y.a, .int .i64 y.b] 59))
                    have BN := Lib.hid (Blk.new wc 59 #[.string y.l, .int .i64 y.a, .int .i64 y.b])
                    go_wp2_with
                      (at_builtin
                       refine wpList_app rfl _ _ _ rfl X 59 3 32 elem_rule Fac.cells A7 nn c7 out rfl O7.out.q ⟨wc.heap.size, 0, none⟩ 1 1 [y] rfl rfl (by omega) (news1 BN.out) (fun x _ => fac_len x) (fun x _ => one_fac x) (by omega) (by omega) (by unfold maxLen; omega) O7.out.n5 ?_
                       intro A9 c9 w9 own9 hg9 hat9
                       have O8 := Lib.hid (O7.out.push own9 hg9)
                       have B9 := O7.out.b.grown hg9 (own_blk_ne O7.out.q O7.out.b (by decide))
                       have f9 := B9.frozen
                       have d9 := B9.cell 0
                       have l9 := B9.lt
                       clear own9 B9)
                    go_roundw
                    case rel => exact ⟨i + 1, nn + 1, A9, c9, out ++ [y], at_.set i (nn : Int), by go_num, by omega, by omega, O8, Lib.hid (by simp [hol.out]), Lib.hid (by simp [hal.out]), E⟩
                    case measure => first | (simp [intOf]; done) | (simp [intOf]; omega)
              · obtain rfl : k = i := by omega
                have hk2 := Lib.hid (show trimL rs = out by
                  rw [key.out, ← HO.out, List.drop_of_length_le (by rw [hkl.out]; exact Nat.le_refl _)]; rfl)
                have b0 := O2.out.b.cell 0
                have o0 := O2.out.o.cell 0
                have fo := O2.out.o.frozen
                go_wp2_with fail
                have hg := gb_set wr w.heap.size 0 (.slice A7 nn c7)
                have x9 := O2.out.o.set_ 0 (.slice A7 nn c7)
                have x10 : (wr.setCell ⟨w.heap.size, 0, none⟩ (.slice A7 nn c7)).cell? ⟨w.heap.size, 0, none⟩ = some (.slice A7 nn c7) := by rw [x9.cell 0]; rfl
                refine bodyPost_ret (v := .agg #[.slice A7 nn c7]) (by simp [results, Try.results34, go_sem, x10]) rfl ⟨A7, c7, by rw [hk2.out, hol.out], ?_, O2.out.e.grown hg O2.out.e.size (fun q hq => by injection hq with hq; omega)⟩
                rw [hk2.out, hol.out]
                exact (O2.out.q.kept hg (.inr fun e => own_blk_ne O2.out.q O2.out.o (by decide) e.symm)).mono (by have := O2.out.n1; have := O2.out.n2; omega)
          · obtain rfl : y = (i : Int) := by omega
            obtain ⟨g5, cp5, hv5, hg50, hg51⟩ := T2.out.r.form (by omega)
            obtain rfl : A5 = some ⟨g5, 0, none⟩ := by injection hv5
            obtain ⟨x, hx⟩ : ∃ x, kept[i]? = some x := ⟨_, List.getElem?_eq_getElem (by have := hkl.out; omega)⟩
            have hxd : kept.getD i default = x := by rw [List.getD_eq_getElem?_getD, hx]; rfl
            have cel := fun (q : Nat) (hq : q < 3) => own_at (sz := 3) (enc := Fac.cells) (fun _ _ => rfl) T2.out.r hkl.out default i (by omega) q hq
            rw [hxd] at cel
            have c0 : wr.cell? ⟨g5, i * 3, none⟩ = some (.string x.l) := cel 0 (by omega)
            have c1 : wr.cell? ⟨g5, i * 3 + 1, none⟩ = some (.int .i64 x.a) := cel 1 (by omega)
            have c2 : wr.cell? ⟨g5, i * 3 + 2, none⟩ = some (.int .i64 x.b) := cel 2 (by omega)
            clear cel hv5
            have bu := B2.out.cell i
            rw [boolA_at u (i := i) (by have := hu.out; omega)] at bu
            have Hus := Lib.hid (show useStep kept i u = if u.getD i false = true ∧ x.l.size = 0 then (u.set x.a.toNat true).set x.b.toNat true else u by unfold useStep; rw [hxd])
            have HU' := Lib.hid (show useT kept i (useStep kept i u) = useT kept k u0 from HU.out)
            have HX := Lib.hid hx
            clear HU hx hxd
            obtain ⟨ub, hub⟩ : ∃ ub, u.getD i false = ub := ⟨_, rfl⟩
            rw [hub] at bu
            have Hub := Lib.hid hub
            clear hub
            have u2 : IntKind.i64.wrap ((i : Int) - 1) = (i : Int) - 1 := IntWalk.i64_in _ (by omega)
            cases ub
            · have e := Hus.out
              rw [Hub.out, if_neg (by simp)] at e
              have E := Lib.hid e
              clear e
              go_wp2_with fail
              go_roundw
              case rel => exact ⟨i, u, _, rfl, by omega, by omega, T2, B2, hu, by rw [E.out] at HU'; exact HU'⟩
              case measure => first | (simp [intOf]; done) | (simp [intOf]; omega)
            · rcases HI.out.k i x HX.out with ⟨h0, ha0, ha1, hb0, hb1⟩ | ⟨cc, hcc, hxl, hxa, hxb⟩
              · have e := Hus.out
                rw [Hub.out, if_pos ⟨rfl, h0⟩] at e
                have E := Lib.hid e
                clear e
                have e0 := size0 h0
                have he : x.l.toList.isEmpty = true := by rw [e0]; rfl
                have nU : U ≠ g5 := fun e => by have := hbd.out.1 g5 rfl; omega
                have fU := B2.out.frozen
                have da := B2.out.cell x.a.toNat
                rw [boolA_at u (by have := hu.out; omega)] at da
                have B5 := B2.out.set_ x.a.toNat (.bool true)
                rw [boolA_set] at B5
                have db2 := B5.cell x.b.toNat
                rw [boolA_at _ (by have := hu.out; rw [List.length_set]; omega)] at db2
                have fU5 := B5.frozen
                clear B5
                have ab : x.a < (k : Int) := by omega
                have bb : x.b < (k : Int) := by omega
                go_wp2_with fail
                go_roundw
                case rel =>
                  have B6 := (B2.out.set_ x.a.toNat (.bool true)).set_ x.b.toNat (.bool true)
                  rw [boolA_set, boolA_set, ← E.out] at B6
                  exact ⟨i, useStep kept i u, _, rfl, by omega, by omega, Lib.hid (T2.out.far (gb_setCell (gb_set wr U _ _) _ _) (fun e => by have := hbd.out.1 _ e.symm; omega) (fun e => by have := hbd.out.2.1 _ e.symm; omega) hbd.out.2.2), Lib.hid B6, Lib.hid (by rw [E.out]; simp [hu.out]), HU'⟩
                case measure => first | (simp [intOf]; done) | (simp [intOf]; omega)
              · have e := Hus.out
                rw [if_neg (by rw [hxl]; rintro ⟨-, h⟩; exact absurd h (show (1 : Nat) ≠ 0 by omega))] at e
                have E := Lib.hid e
                have e0 : x.l.toList ≠ [] := size1 (by rw [hxl]; show (1 : Nat) ≠ 0; omega)
                have he : x.l.toList.isEmpty = false := by rw [List.isEmpty_eq_false_iff]; exact e0
                clear e hxl hxa hxb
                go_wp2_with fail
                go_roundw
                case rel => exact ⟨i, u, _, rfl, by omega, by omega, T2, B2, hu, by rw [E.out] at HU'; exact HU'⟩
                case measure => first | (simp [intOf]; done) | (simp [intOf]; omega)
end Go.Proofs.Ytajfjgemfnfakaa


/-
  TrimGrammar on both sides.
-/
namespace Go.Proofs.Ytajfjgemfnfakaa
open Go.RowKit

/-- a grammar in new memory, and a code -/
def RetGC (w0 : World) (xs : List Fac) (k : Int) (e : Ending) (w' : World) : Prop :=
  ∃ A c, e = .returned (.tuple #[.agg #[.slice A xs.length c], .int .i64 k]) ∧ w'.ownsRow w0.heap.size 59 3 (.slice A xs.length c) xs.length (xs.flatMap Fac.cells) ∧ Below w0.heap.size w0 w'
def trimF (rs : List Fac) : List Fac := if (gOk rs).isSome then trimL rs else []
def trimC (rs : List Fac) : Int := if (gOk rs).isSome then 0 else 1
theorem outT_len (used : List Bool) : ∀ (ks : List Fac) (i : Nat) (out : List Fac) (at_ : List Int), (outT used i ks out at_).length ≤ out.length + ks.length
  | [], i, out, at_ => by simp [outT]
  | r :: ks, i, out, at_ => by
    rw [outT]
    split
    · have := outT_len used ks (i + 1) (out ++ [trR at_ r]) (at_.set i (out.length : Int))
      simp only [List.length_append, List.length_singleton] at this
      simp only [List.length_cons]; omega
    · have := outT_len used ks (i + 1) out at_
      simp only [List.length_cons]; omega
theorem trK_len : ∀ (rs kept : List Fac) (same : List Int), (trK rs kept same).1.length = kept.length + rs.length
  | [], kept, same => by simp [trK]
  | r :: rs, kept, same => by
    rw [trK, trK_len rs]; simp; omega
theorem trimF_len (rs : List Fac) : (trimF rs).length ≤ rs.length := by
  unfold trimF
  split
  · unfold trimL
    split
    · simp
    · have h1 := outT_len (useT (trK rs [] []).1 rs.length (use0 rs.length (trK rs [] []).2)) (trK rs [] []).1 0 [] (List.replicate rs.length 0)
      have h2 := trK_len rs [] []
      simp only [List.length_nil, Nat.zero_add] at h1 h2
      omega
  · simp
end Go.Proofs.Ytajfjgemfnfakaa
