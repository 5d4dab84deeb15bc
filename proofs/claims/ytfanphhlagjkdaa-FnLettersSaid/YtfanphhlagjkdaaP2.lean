/-
  Texts of this claim, merged: PairsI PairsS Runs WdU WdR Mark MarkI Ints Tabs PairC Stop LrI LrJ LrK.
-/
import Derived.Test.YtfanphhlagjkdaaP1
import Derived.Laws.Rows
import Derived.Laws.Tables
import Derived.Laws.CopyOwn


/-
  How often letters come behind letters: in the program.
-/
namespace Go.Proofs.Ytfanphhlagjkdaa
open Go.RowKit

def edgF (l : Nat) : Ed := ⟨(l : Int), (l : Int)⟩
def edgG (a b : Ed) (_ : Fac) : Ed := ⟨a.f, b.l⟩
abbrev edgAll (rs : List Fac) : List Ed := full Ed.nil edgF edgG rs
theorem edg_f {rs : List Fac} (hwf : WF rs) {k : Nat} (hk : k < rs.length) : ((edgAll rs).getD k Ed.nil).f = (edf rs).getD k 0 :=
  full_map Ed.nil edgF edgG 0 edF edGf Ed.f hwf (fun _ => rfl) (fun _ _ _ => rfl) k hk
theorem edg_l {rs : List Fac} (hwf : WF rs) {k : Nat} (hk : k < rs.length) : ((edgAll rs).getD k Ed.nil).l = (edl rs).getD k 0 :=
  full_map Ed.nil edgF edgG 0 edF edGl Ed.l hwf (fun _ => rfl) (fun _ _ _ => rfl) k hk
theorem ix2 (a b : Int) : (∀ w : World, (Instr.index 115 (.agg #[.int .i64 a, .int .i64 b]) (.int .i64 0)).run Try.prog w = .ok (.int .i64 a) w) ∧
    (∀ w : World, (Instr.index 115 (.agg #[.int .i64 a, .int .i64 b]) (.int .i64 1)).run Try.prog w = .ok (.int .i64 b) w) :=
  ⟨fun _ => by kernel_rfl, fun _ => by kernel_rfl⟩
theorem edg1_any (l : Nat) (w : World) (hl : l < 4) : Calls Try.prog 70 #[.int .i64 (l : Int)] w (Ret (.agg #[.int .i64 (edgF l).f, .int .i64 (edgF l).l]) w) := by
  go_enter Try.func70, Try.ntmps70
  go_wp2
  refine bodyPost_ret (v := .agg #[.int .i64 (edgF l).f, .int .i64 (edgF l).l]) ?_ rfl ⟨rfl, by (repeat first | exact Below.refl _ _ | assumption | refine Below.drew ?_ | refine Below.alloc ?_ (by first | exact Nat.le_refl _ | (simp; done) | omega | (simp; omega)) _ | refine Below.setCell ?_ (by first | exact Nat.le_refl _ | (simp; done) | omega | (simp; omega)) _)⟩
  simp [results, Try.results70, go_sem, edgF]
theorem edg2_any (x y : Ed) (r : Fac) (w : World) :
    Calls Try.prog 71 #[.agg #[.int .i64 x.f, .int .i64 x.l], .agg #[.int .i64 y.f, .int .i64 y.l], r.val] w (Ret (.agg #[.int .i64 (edgG x y r).f, .int .i64 (edgG x y r).l]) w) := by
  obtain ⟨xf, xl⟩ := x
  obtain ⟨yf, yl⟩ := y
  unfold Fac.val
  have a1 := (ix2 xf xl).1
  have a2 := (ix2 yf yl).2
  go_enter Try.func71, Try.ntmps71
  go_wp2
  refine bodyPost_ret (v := .agg #[.int .i64 (edgG ⟨xf, xl⟩ ⟨yf, yl⟩ r).f, .int .i64 (edgG ⟨xf, xl⟩ ⟨yf, yl⟩ r).l]) ?_ rfl ⟨rfl, by (repeat first | exact Below.refl _ _ | assumption | refine Below.drew ?_ | refine Below.alloc ?_ (by first | exact Nat.le_refl _ | (simp; done) | omega | (simp; omega)) _ | refine Below.setCell ?_ (by first | exact Nat.le_refl _ | (simp; done) | omega | (simp; omega)) _)⟩
  simp [results, Try.results71, go_sem, edgG]
/-- rows that are empty yet -/
def zT (k : Nat) : List Q4 := List.replicate k Q4.nil
theorem zT_succ (k : Nat) : zT (k + 1) = zT k ++ [Q4.nil] := by unfold zT; rw [List.replicate_succ']
theorem PTab.lt {w : World} {base : Nat} {gs : List Nat} {qs : List Q4} (h : PTab w base gs qs) : ∀ (i p : Nat), gs[i]? = some p → p < w.heap.size := fun i p hi => (h.1.2 i p hi).2.lt
theorem PTab.next {w w' : World} {base : Nat} {gs : List Nat} {qs : List Q4} (h : PTab w base gs qs) (hb : Below w.heap.size w w') : PTab w' base gs qs := h.below hb
theorem PTab.drew {w : World} {base : Nat} {gs : List Nat} {qs : List Q4} (h : PTab w base gs qs) : PTab w.drew base gs qs := h
/-- other rows stay as they are when a row is written -/
theorem own_row_set {w : World} {base e size n g l : Nat} {v : Value} {xs : List Value} {cs : Array Value} (h : w.ownsRow base e size v n xs) (hg : Blk w g 2 cs) (hne : e ≠ 2) (u : Value) : (w.setCell ⟨g, l, none⟩ u).ownsRow base e size v n xs :=
  Go.ownsRow_setCell_other h (fun he => own_blk_ne h hg hne he.symm) u
theorem own_ne_ty {w : World} {b1 b2 e1 e2 s1 s2 n1 n2 : Nat} {v1 v2 : Value} {xs1 xs2 : List Value} (h1 : w.ownsRow b1 e1 s1 v1 n1 xs1) (h2 : w.ownsRow b2 e2 s2 v2 n2 xs2) (hne : e1 ≠ e2) : v1.ownBlock = none ∨ v1.ownBlock ≠ v2.ownBlock := by
  rcases h1.2 with ⟨rfl, _⟩ | ⟨g1, c1, u1, rfl, _, hh1, _⟩
  · left; rfl
  · right
    rcases h2.2 with ⟨rfl, _⟩ | ⟨g2, c2, u2, rfl, _, hh2, _⟩
    · simp [Value.ownBlock]
    · intro he
      have hg : g1 = g2 := by simpa [Value.ownBlock] using he
      subst hg
      rw [hh1] at hh2
      injection hh2 with hh2
      injection hh2 with _ ht
      exact hne ht
/-- the table under way, and the list of uses -/
structure PInv (w : World) (bu B : Nat) (Au : Option Addr) (n cu : Nat) (us : List Int) (A' : Option Addr) (k c' : Nat) (gs : List Nat) (qs : List Q4) (w' : World) : Prop where
  hb : Below w.heap.size w w'
  lo : w.heap.size ≤ B
  sz : B ≤ w'.heap.size
  ou : w'.ownsRow bu 2 1 (.slice Au n cu) n (us.flatMap intE)
  ub : ∀ p, (Value.slice Au n cu).ownBlock = some p → p < B
  o : w'.ownsRow w.heap.size 43 1 (.slice A' k c') k (gs.flatMap encG)
  q : PTab w' B gs qs
  len : qs.length = k
theorem PInv.next {w w1 w2 : World} {bu B : Nat} {Au : Option Addr} {n cu : Nat} {us : List Int} {A' : Option Addr} {k c' : Nat} {gs : List Nat} {qs : List Q4} (h : PInv w bu B Au n cu us A' k c' gs qs w1) (hb : Below w1.heap.size w1 w2) : PInv w bu B Au n cu us A' k c' gs qs w2 :=
  ⟨h.hb.trans (hb.mono h.hb.size), h.lo, Nat.le_trans h.sz hb.size, own_next h.ou hb, h.ub, own_next h.o hb, h.q.next hb, h.len⟩
theorem PInv.set_ {w w1 : World} {bu B : Nat} {Au : Option Addr} {n cu : Nat} {us : List Int} {A' : Option Addr} {k c' : Nat} {gs : List Nat} {qs : List Q4} (h : PInv w bu B Au n cu us A' k c' gs qs w1) {i g l : Nat} (hg : gs[i]? = some g) (hl : l < 4) (v : Int) :
    PInv w bu B Au n cu us A' k c' gs (addT qs i l v) (w1.setCell ⟨g, l, none⟩ (.int .i64 ((qs.getD i Q4.nil).at_ l + v))).drew := by
  have r := h.q.1.2 i g hg
  refine ⟨(h.hb.setCell (Nat.le_trans h.lo r.1) _).drew, h.lo, by simpa using h.sz, (Go.ownsRow_setCell_other h.ou (fun e => by have := h.ub _ e; have := r.1; simp at *; omega) _).drew, h.ub, (own_row_set h.o r.2 (by decide) _).drew, (h.q.set_ hg hl v).drew, by unfold addT; rw [List.length_set]; exact h.len⟩
theorem PInv.push {w wr w9 : World} {bu B : Nat} {Au : Option Addr} {n cu : Nat} {us : List Int} {A' A9 : Option Addr} {k c' c9 : Nat} {gs : List Nat} {qs : List Q4} {o : Obj} (h : PInv w bu B Au n cu us A' k c' gs qs wr)
    (own9 : w9.ownsRow w.heap.size 43 1 (.slice A9 (k + 1) c9) (k + 1) ((gs ++ [wr.heap.size]).flatMap encG))
    (hg9 : ((wr.alloc (.cells (encQ4 Q4.nil).toArray 2)).alloc o).grownBy w9 (Value.slice A' k c').ownBlock) : PInv w bu B Au n cu us A9 (k + 1) c9 (gs ++ [wr.heap.size]) (qs ++ [Q4.nil]) w9 := by
  have b0 := h.hb.size
  have hs : ((wr.alloc (.cells (encQ4 Q4.nil).toArray 2)).alloc o).heap.size = wr.heap.size + 2 := by simp
  refine ⟨((h.hb.alloc b0 _).alloc (by simp; omega) _).grown hg9 (by rw [hs]; omega) (own_ge h.o), h.lo, ?_, ?_, h.ub, own9, ?_, by rw [List.length_append]; simp [h.len]⟩
  · have := hg9.size; have := h.sz; omega
  · exact ((h.ou.alloc _).alloc _).kept hg9 (own_ne_ty h.ou h.o (by decide))
  · have P := PTab.push (w := wr.alloc (.cells (encQ4 Q4.nil).toArray 2)) (base := w.heap.size) (gs := gs) (qs := qs) ⟨⟨h.q.1.1, fun i g hg => ⟨Nat.le_trans h.lo (h.q.1.2 i g hg).1, (h.q.1.2 i g hg).2.alloc _⟩⟩, h.q.2⟩ h.len (h.o.alloc _) (Blk.new wr _ _) b0 h.q.lt o hg9
    refine ⟨⟨P.1.1, fun i g hg => ⟨?_, (P.1.2 i g hg).2⟩⟩, P.2⟩
    by_cases h1 : i < gs.length
    · rw [List.getElem?_append_left h1] at hg
      exact (h.q.1.2 i g hg).1
    · rw [List.getElem?_append_right (by omega)] at hg
      have h2 := (List.getElem?_eq_some_iff.1 hg).1
      rw [show i - gs.length = 0 by simp at h2; omega] at hg
      have : wr.heap.size = g := by simpa using hg
      rw [← this]; exact h.sz
theorem PInv.blk {w wr w9 : World} {bu B : Nat} {Au : Option Addr} {n cu : Nat} {us : List Int} {A' : Option Addr} {k c' : Nat} {gs : List Nat} {qs : List Q4} {o1 o2 : Obj} (h : PInv w bu B Au n cu us A' k c' gs qs wr) {g : Nat} {t : TypeId} {cs : Array Value} (hB : Blk wr g t cs) (ht : 43 ≠ t)
    (hg9 : ((wr.alloc o1).alloc o2).grownBy w9 (Value.slice A' k c').ownBlock) : Blk w9 g t cs :=
  ((hB.alloc _).alloc _).grown hg9 (own_blk_ne h.o hB ht)
theorem PInv.ret {w w1 : World} {bu B : Nat} {Au : Option Addr} {n cu : Nat} {us : List Int} {A' : Option Addr} {c' : Nat} {gs : List Nat} {rs : List Fac} (h : PInv w bu B Au n cu us A' 4 c' gs (pcT rs rs.length) w1) : RetPT w (pcAll rs) (.returned (.slice A' 4 c')) w1 := by
  refine ⟨A', c', gs, ret_slice (pcT_len _ _).symm, ?_, ⟨⟨h.q.1.1, fun i g hg => ⟨Nat.le_trans h.lo (h.q.1.2 i g hg).1, (h.q.1.2 i g hg).2⟩⟩, h.q.2⟩, h.hb⟩
  rw [pcT_len]; exact h.o
set_option maxHeartbeats 4000000 in
set_option maxRecDepth 100000 in
theorem implPairs_any (A : Option Addr) (n c : Nat) (rs : List Fac) (ls : List Int) (w : World) (hn : n ≤ 1000) (hr : Rd w w.heap.size A n 3 Fac.cells rs) (hls : gLens rs [] = some ls) (hll : ls.length = rs.length) :
    Calls Try.prog 40 #[.agg #[.slice A n c]] w (RetPT w (pcAll rs)) := by
  have hl := Lib.hid hr.len
  have HR := Lib.hid hr; clear hr
  have HL := Lib.hid hls; clear hls
  have Hll := Lib.hid hll; clear hll
  go_enter Try.func40, Try.ntmps40
  go_wp2_with fail
  refine namedC fun w1 H1 => ?_
  have b1 : Below w.heap.size w w1 := by rw [H1.out]; (repeat first | exact Below.refl _ _ | assumption | refine Below.drew ?_ | refine Below.alloc ?_ (by first | exact Nat.le_refl _ | (simp; done) | omega | (simp; omega)) _ | refine Below.setCell ?_ (by first | exact Nat.le_refl _ | (simp; done) | omega | (simp; omega)) _)
  have G1 := Lib.hid (show Blk w1 w.heap.size 26 #[.slice A n c] by rw [H1.out]; exact (Blk.new w _ _).alloc _)
  have O1 := Lib.hid (show w1.ownsRow w.heap.size 43 1 (.slice (some ⟨w.heap.size + 1, 0, none⟩) 0 0) 0 ([].flatMap encG) by
    rw [H1.out]; simpa using own_of_blk (base := w.heap.size) (n := 0) (sz := 1) (enc := encG) (xs := []) (Blk.new (w.alloc (.cells #[.slice A n c] 26)) 43 #[]) (by simp) rfl rfl (by unfold maxLen; omega) (fun _ _ => rfl) (fun k x hx => by simp at hx))
  clear H1
  have Hun := Lib.hid (show (usesOf rs).length = n by
    rcases Nat.eq_zero_or_pos n with h | h
    · have h := List.eq_nil_of_length_eq_zero (hl.out.trans h)
      rw [← hl.out, h]; rfl
    · rw [(uses_inv HL.out Hll.out (by rw [hl.out]; exact h)).len]; exact hl.out)
  refine (implUses_any A n c rs ls w1 (by omega) (HR.out.next b1) HL.out Hll.out).mono ?_
  rintro e2 w2 ⟨Au, cu, rfl, ownu, hb2⟩
  rw [Hun.out] at ownu ⊢
  have b2 := Lib.hid (b1.trans (hb2.mono b1.size))
  have G2 := Lib.hid (G1.out.next hb2)
  have P0 := Lib.hid (show PInv w w1.heap.size w2.heap.size Au n cu (usesOf rs) (some ⟨w.heap.size + 1, 0, none⟩) 0 0 [] (zT 0) w2 from
    ⟨b2.out, b2.out.size, Nat.le_refl _, ownu, fun p hp => (ownu.lt p hp).2, own_next O1.out hb2, ⟨⟨rfl, fun i g h => by simp at h⟩, fun i j g h => by simp at h⟩, rfl⟩)
  have lo2 := Lib.hid (show w.heap.size < w2.heap.size from G2.out.lt)
  clear ownu hb2 b1
  have mk4 := make4
  go_wp2_with fail
  go_loopw [3, 11] (fun o_ i_ w' => ∃ (k : Nat) (A' : Option Addr) (c' : Nat) (gs : List Nat), i_ = .int .i64 k ∧ o_ = .slice A' k c' ∧ k ≤ 4 ∧
      Hid (PInv w w1.heap.size w2.heap.size Au n cu (usesOf rs) A' k c' gs (zT k) w') ∧ Hid (Blk w' w.heap.size 26 #[.slice A n c])) (fun _ i_ _ => 4 - (intOf i_).toNat)
  case atStart =>
    exact ⟨0, _, 0, [], rfl, rfl, by omega, P0, G2⟩
  case round =>
    obtain ⟨k, A', c', gs, rfl, rfl, hk, hP, hG⟩ := hrel
    by_cases hlt : k < 4
    · have b0 := hP.out.hb.size
      go_wp2_with
        (at_builtin
         refine wpList_pushG rfl _ _ _ rfl w.heap.size 43 1 24 elemG encG _ k c' gs rfl ((hP.out.o.alloc _).alloc _) (wr.heap.size + 1) wr.heap.size #[.slice (some ⟨wr.heap.size, 0, none⟩) 4 4] 43 (0, 0) rfl (by simpa using heap_alloc_new (wr.alloc _) _) rfl rfl (one_encG _) (by omega) (by omega) (by unfold maxLen; omega) (by simp; omega) ?_
         intro A9 c9 w9 own9 hg9 hat9
         have P9 := Lib.hid (hP.out.push own9 hg9)
         have B9 := Lib.hid (hP.out.blk hG.out (by decide) hg9)
         clear own9 hat9 hg9)
      go_roundw
      case rel =>
        refine ⟨k + 1, A9, c9, gs ++ [wr.heap.size], by go_num, rfl, by omega, Lib.hid ?_, B9⟩
        rw [zT_succ]; exact P9.out
      case measure => simp [intOf]; omega
    · obtain rfl : k = 4 := by omega
      clear mk4 hlt
      rename World => wo
      have cg := hG.out.cell 0
      have lg := hG.out.lt
      have HWF := Lib.hid (wf_of HL.out)
      go_wp2_with fail
      refine (foldE_any 70 71 (enterOk Try.func70 (by kernel_rfl) (by kernel_rfl)) (enterOk Try.func71 (by kernel_rfl) (by kernel_rfl)) #[] #[] edgF edgG Ed.nil A n c rs wo (by omega) ((HR.out.below hP.out.hb).more hP.out.hb.size) HWF.out ?_ ?_).mono ?_
      · intro k r hr h0 w' hb'
        rcases HWF.out k r hr with ⟨h0', _⟩ | ⟨cc, hcc, hxl, _⟩
        · exact absurd h0' h0
        · exact edg1_any (letN r.l) w' (letN_lt (by rw [hxl]; exact hcc))
      · intro k r hr h0 w' hb'
        simpa using edg2_any ((outs Ed.nil edgF edgG rs k).getD r.a.toNat Ed.nil) ((outs Ed.nil edgF edgG rs k).getD r.b.toNat Ed.nil) r w'
      rintro e5 w5 ⟨Ae, ce, rfl, own5, hb5⟩
      have P5 := Lib.hid (hP.out.next hb5)
      have G5 := Lib.hid (hG.out.next hb5)
      have E5 := Lib.hid own5
      have cg5 := G5.out.cell 0
      have lg5 := G5.out.lt
      clear own5 hb5 cg lg
      have HE := Lib.hid (fun (h : 0 < rs.length) => foldAll_pos Ed.nil edgF edgG Ed.nil h)
      have HEl := Lib.hid (foldAll_len Ed.nil edgF edgG Ed.nil rs)
      generalize hfe : foldAll Ed.nil edgF edgG Ed.nil rs = es at *
      clear hfe
      have hes := Lib.hid (show n ≤ es.length ∧ (0 < n → es.length = n) by
        rcases Nat.eq_zero_or_pos n with h | h
        · omega
        · have := HE.out (by rw [hl.out]; exact h)
          have h2 : es.length = n := by rw [this, full_len]; exact hl.out
          omega)
      generalize hen : es.length = en at *
      have hen1 : n ≤ en := hes.out.1
      have hen2 : en ≤ n + 1 := by have := HEl.out.2; rw [hl.out] at this; exact this
      have Hen := Lib.hid hen
      clear hen
      go_wp2_with fail
      rename World => wq
      go_loopw [24] (fun i_ w' => ∃ (i : Nat), i_ = .int .i64 i ∧ i ≤ n ∧ Hid (PInv w w1.heap.size w2.heap.size Au n cu (usesOf rs) A' 4 c' gs (pcT rs i) w') ∧ Hid (Blk w' w.heap.size 26 #[.slice A n c]) ∧
        Hid (w'.ownsRow wo.heap.size 115 2 (.slice Ae en ce) en (es.flatMap encEd))) (fun i_ _ => n - (intOf i_).toNat)
      case atStart => exact ⟨0, rfl, by omega, P5, G5, E5⟩
      case round =>
        obtain ⟨i, rfl, hi, hP, hG, hE⟩ := hrel
        have hb := hP.out.hb
        by_cases hlt : i < n
        · obtain ⟨b, o, x, rfl, hBr, gx, c0, c1, c2⟩ := (HR.out.below hb).fac hlt
          have hBr2 : b < wr.heap.size := Nat.lt_of_lt_of_le hBr hb.size
          have Gx := Lib.hid gx; clear gx
          have hxr := Lib.hid (show i < rs.length by rw [hl.out]; exact hlt)
          have hEF := Lib.hid (HE.out (by rw [hl.out]; omega))
          rcases wf_of HL.out i x Gx.out with ⟨h0, ha0, ha1, hb0, hb1⟩ | ⟨cc, hcc, hxl, hxz⟩
          · have eT := Lib.hid (pcT_pair Gx.out h0)
            go_wp2_with fail
            refine namedC fun w3 H3 => ?_
            have bb3 : Below wr.heap.size wr w3 := by rw [H3.out]; (repeat first | exact Below.refl _ _ | assumption | refine Below.drew ?_ | refine Below.alloc ?_ (by first | exact Nat.le_refl _ | (simp; done) | omega | (simp; omega)) _ | refine Below.setCell ?_ (by first | exact Nat.le_refl _ | (simp; done) | omega | (simp; omega)) _)
            have R3 := Lib.hid (show Blk w3 wr.heap.size 65 #[.string x.l, .int .i64 x.a, .int .i64 x.b] by rw [H3.out]; exact Blk.new wr _ _)
            have P3 := Lib.hid (hP.out.next bb3)
            have G3 := Lib.hid (hG.out.next bb3)
            have E3 := Lib.hid (own_next hE.out bb3)
            clear H3 bb3
            refine (isPair_any x true _ (by simpa [isP] using h0)).mono ?_
            rintro e4 w4 ⟨rfl, bb4⟩
            have R4 := Lib.hid (R3.out.next bb4)
            have P4 := Lib.hid (P3.out.next bb4)
            have G4 := Lib.hid (G3.out.next bb4)
            have E4 := Lib.hid (own_next E3.out bb4)
            have lt4 : wr.heap.size < w4.heap.size := R4.out.lt
            clear bb4 P3 G3 E3 R3 c0 c1 c2
            have hal := edl_b HWF.out (k := x.a.toNat) (by have := hl.out; omega)
            have hbf := edf_b HWF.out (k := x.b.toNat) (by have := hl.out; omega)
            obtain ⟨za, hza⟩ : ∃ za : Nat, (edl rs).getD x.a.toNat 0 = (za : Int) := ⟨((edl rs).getD x.a.toNat 0).toNat, by omega⟩
            obtain ⟨zb, hzb⟩ : ∃ zb : Nat, (edf rs).getD x.b.toNat 0 = (zb : Int) := ⟨((edf rs).getD x.b.toNat 0).toNat, by omega⟩
            have za4 : za < 4 := by omega
            have zb4 : zb < 4 := by omega
            have za4' : (za : Int) < 4 := by omega
            have zb4' : (zb : Int) < 4 := by omega
            have za0 : (0 : Int) ≤ (za : Int) := by omega
            have zb0 : (0 : Int) ≤ (zb : Int) := by omega
            have Hza := Lib.hid hza
            have Hzb := Lib.hid hzb
            clear hza hzb hal hbf
            obtain ⟨p, g, rfl, hp0, hp1, hgk, s1⟩ := encG_at P4.out.o (P4.out.q.1.1.trans P4.out.len) (i := za) za4
            have Hgk := Lib.hid hgk; clear hgk
            have s2 := P4.out.q.at_ Hgk.out zb4
            obtain ⟨ge, cape, hve, _, hge⟩ := hE.out.form (by omega)
            obtain rfl : Ae = some ⟨ge, 0, none⟩ := by injection hve
            clear hve
            have ea := own_at (fun _ _ => lenEd _) E4.out Hen.out Ed.nil x.a.toNat (by omega) 1 (by omega)
            have eb := own_at (fun _ _ => lenEd _) E4.out Hen.out Ed.nil x.b.toNat (by omega) 0 (by omega)
            have sa : w4.cell? ⟨ge, x.a.toNat * 2 + 1, none⟩ = some (.int .i64 (za : Int)) := by
              rw [ea, hEF.out, ← Hza.out, ← edg_l HWF.out (k := x.a.toNat) (by have := hxr.out; omega)]; rfl
            have sb : w4.cell? ⟨ge, x.b.toNat * 2, none⟩ = some (.int .i64 (zb : Int)) := by
              rw [Nat.add_zero] at eb
              rw [eb, hEF.out, ← Hzb.out, ← edg_f HWF.out (k := x.b.toNat) (by have := hxr.out; omega)]; rfl
            obtain ⟨gu, capu, hvu, _, hgu⟩ := P4.out.ou.form (by omega)
            obtain rfl : Au = some ⟨gu, 0, none⟩ := by injection hvu
            clear hvu ea eb
            have su := own_at (sz := 1) (enc := intE) (fun _ _ => rfl) P4.out.ou Hun.out 0 i (by omega) 0 (by omega)
            rw [Nat.mul_one, Nat.add_zero] at su
            have su' : w4.cell? ⟨gu, i, none⟩ = some (.int .i64 ((usesOf rs).getD i 0)) := su
            clear su
            have U := uses_inv HL.out Hll.out (by have := hxr.out; omega)
            have u0 := U.nn i
            have u1 := U.bd i
            have q01 := pcT_bd HL.out Hll.out i (by have := hxr.out; omega) za zb
            have f2 := (P4.out.q.1.2 za g Hgk.out).2.frozen zb
            have lg4 : g < w4.heap.size := (P4.out.q.1.2 za g Hgk.out).2.lt
            have PS := Lib.hid (P4.out.set_ Hgk.out zb4 ((usesOf rs).getD i 0))
            have GS := Lib.hid (G4.out.far (p := ⟨g, zb, none⟩) (by have := (P4.out.q.1.2 za g Hgk.out).1; have := lo2.out; show w.heap.size ≠ g; omega) (.int .i64 (((pcT rs i).getD za Q4.nil).at_ zb + (usesOf rs).getD i 0)))
            have ES := Lib.hid (own_row_set E4.out (P4.out.q.1.2 za g Hgk.out).2 (by decide) (l := zb) (.int .i64 (((pcT rs i).getD za Q4.nil).at_ zb + (usesOf rs).getD i 0)))
            have eT2 := Lib.hid (show pcT rs (i + 1) = addT (pcT rs i) za zb ((usesOf rs).getD i 0) by rw [eT.out, Hza.out, Hzb.out]; rfl)
            generalize hqv : ((pcT rs i).getD za Q4.nil).at_ zb = qv at *
            generalize huv : (usesOf rs).getD i 0 = uv at *
            clear U hqv
            have Huv := Lib.hid huv; clear huv
            obtain ⟨r0, r1, r2⟩ := R4.out.three
            go_wp2_with fail
            go_region
            go_wp2_with fail
            go_roundw
            case rel => exact ⟨i + 1, by go_num, by omega, Lib.hid (by rw [eT2.out]; exact PS.out), Lib.hid GS.out.drew, Lib.hid ES.out.drew⟩
            case measure => simp [intOf] <;> omega
          · have h0' : x.l.size ≠ 0 := by rw [hxl]; show (1 : Nat) ≠ 0; omega
            have eT := Lib.hid (pcT_let Gx.out h0')
            clear hxl hxz hcc
            go_wp2_with fail
            refine namedC fun w3 H3 => ?_
            have bb3 : Below wr.heap.size wr w3 := by rw [H3.out]; (repeat first | exact Below.refl _ _ | assumption | refine Below.drew ?_ | refine Below.alloc ?_ (by first | exact Nat.le_refl _ | (simp; done) | omega | (simp; omega)) _ | refine Below.setCell ?_ (by first | exact Nat.le_refl _ | (simp; done) | omega | (simp; omega)) _)
            clear H3
            refine (isPair_any x false _ (by simpa [isP] using h0')).mono ?_
            rintro e4 w4 ⟨rfl, bb4⟩
            go_wp2_with fail
            go_roundw
            case rel => exact ⟨i + 1, by go_num, by omega, Lib.hid (by rw [eT.out]; exact (hP.out.next bb3).next bb4), Lib.hid ((hG.out.next bb3).next bb4), Lib.hid (own_next (own_next hE.out bb3) bb4)⟩
            case measure => simp [intOf] <;> omega
        · have e9 := Lib.hid (show i = rs.length by rw [hl.out]; omega)
          obtain rfl : i = n := by omega
          go_wp2_with fail
          go_ret
          have := hP.out
          rw [e9.out] at this
          exact this.ret
end Go.Proofs.Ytfanphhlagjkdaa


/-
  How often letters come behind letters: in the reference.
-/
namespace Go.Proofs.Ytfanphhlagjkdaa
open Go.RowKit

/-- two lists of numbers that grow -/
structure Two (w : World) (A1 : Option Addr) (k1 c1 : Nat) (xs1 : List Int) (A2 : Option Addr) (k2 c2 : Nat) (xs2 : List Int) (w' : World) : Prop where
  hb : Below w.heap.size w w'
  o1 : w'.ownsRow w.heap.size 2 1 (.slice A1 k1 c1) k1 (xs1.flatMap intE)
  o2 : w'.ownsRow w.heap.size 2 1 (.slice A2 k2 c2) k2 (xs2.flatMap intE)
  ne : ∀ p, (Value.slice A1 k1 c1).ownBlock = some p → (Value.slice A2 k2 c2).ownBlock ≠ some p
theorem Two.next {w w1 w2 : World} {A1 A2 : Option Addr} {k1 c1 k2 c2 : Nat} {xs1 xs2 : List Int} (h : Two w A1 k1 c1 xs1 A2 k2 c2 xs2 w1) (hb : Below w1.heap.size w1 w2) : Two w A1 k1 c1 xs1 A2 k2 c2 xs2 w2 :=
  ⟨h.hb.trans (hb.mono h.hb.size), own_next h.o1 hb, own_next h.o2 hb, h.ne⟩
theorem Two.swap {w w1 : World} {A1 A2 : Option Addr} {k1 c1 k2 c2 : Nat} {xs1 xs2 : List Int} (h : Two w A1 k1 c1 xs1 A2 k2 c2 xs2 w1) : Two w A2 k2 c2 xs2 A1 k1 c1 xs1 w1 :=
  ⟨h.hb, h.o2, h.o1, fun p h2 h1 => h.ne p h1 h2⟩
theorem Two.push {w wr w9 : World} {A1 A2 A9 : Option Addr} {k1 c1 k2 c2 c9 : Nat} {xs1 xs2 : List Int} {o : Obj} {v : Int} (h : Two w A1 k1 c1 xs1 A2 k2 c2 xs2 wr)
    (own9 : w9.ownsRow w.heap.size 2 1 (.slice A9 (k1 + 1) c9) (k1 + 1) ((xs1 ++ [v]).flatMap intE))
    (hg9 : (wr.alloc o).grownBy w9 (Value.slice A1 k1 c1).ownBlock)
    (hat9 : (Value.slice A9 (k1 + 1) c9).ownBlock = (Value.slice A1 k1 c1).ownBlock ∨ (Value.slice A9 (k1 + 1) c9).ownBlock = some (wr.alloc o).heap.size) : Two w A9 (k1 + 1) c9 (xs1 ++ [v]) A2 k2 c2 xs2 w9 := by
  have b0 := h.hb.size
  refine ⟨(h.hb.alloc b0 _).grown hg9 (by simp; omega) (own_ge h.o1), own9, (h.o2.alloc _).kept hg9 ?_, fun p hp => ?_⟩
  · cases hv : (Value.slice A2 k2 c2).ownBlock with
    | none => exact .inl rfl
    | some q => exact .inr fun e => h.ne q e.symm hv
  · rcases hat9 with e | e
    · exact h.ne p (e.symm.trans hp)
    · intro e2
      rw [hp] at e
      have := (h.o2.lt p e2).2
      injection e with e
      simp at e
      omega
/-- what 'l05Edges' leaves -/
def RetTwo (w : World) (xs ys : List Int) (e : Ending) (w' : World) : Prop :=
  ∃ A1 c1 A2 c2, e = .returned (.tuple #[.slice A1 xs.length c1, .slice A2 ys.length c2]) ∧ w'.ownsRow w.heap.size 2 1 (.slice A1 xs.length c1) xs.length (xs.flatMap intE) ∧ w'.ownsRow w.heap.size 2 1 (.slice A2 ys.length c2) ys.length (ys.flatMap intE) ∧ Below w.heap.size w w'
/-- the table under way -/
structure PTin (w : World) (A' : Option Addr) (k c' : Nat) (gs : List Nat) (qs : List Q4) (w' : World) : Prop where
  hb : Below w.heap.size w w'
  o : w'.ownsRow w.heap.size 43 1 (.slice A' k c') k (gs.flatMap encG)
  q : PTab w' w.heap.size gs qs
  len : qs.length = k
theorem PTin.next {w w1 w2 : World} {A' : Option Addr} {k c' : Nat} {gs : List Nat} {qs : List Q4} (h : PTin w A' k c' gs qs w1) (hb : Below w1.heap.size w1 w2) : PTin w A' k c' gs qs w2 :=
  ⟨h.hb.trans (hb.mono h.hb.size), own_next h.o hb, h.q.next hb, h.len⟩
theorem PTin.set_ {w w1 : World} {A' : Option Addr} {k c' : Nat} {gs : List Nat} {qs : List Q4} (h : PTin w A' k c' gs qs w1) {i g l : Nat} (hg : gs[i]? = some g) (hl : l < 4) (v : Int) :
    PTin w A' k c' gs (addT qs i l v) (w1.setCell ⟨g, l, none⟩ (.int .i64 ((qs.getD i Q4.nil).at_ l + v))) := by
  have r := h.q.1.2 i g hg
  exact ⟨h.hb.setCell r.1 _, own_row_set h.o r.2 (by decide) _, h.q.set_ hg hl v, by unfold addT; rw [List.length_set]; exact h.len⟩
theorem PTin.push {w wr w9 : World} {A' A9 : Option Addr} {k c' c9 : Nat} {gs : List Nat} {qs : List Q4} {o : Obj} (h : PTin w A' k c' gs qs wr)
    (own9 : w9.ownsRow w.heap.size 43 1 (.slice A9 (k + 1) c9) (k + 1) ((gs ++ [wr.heap.size]).flatMap encG))
    (hg9 : ((wr.alloc (.cells (encQ4 Q4.nil).toArray 2)).alloc o).grownBy w9 (Value.slice A' k c').ownBlock) : PTin w A9 (k + 1) c9 (gs ++ [wr.heap.size]) (qs ++ [Q4.nil]) w9 := by
  have b0 := h.hb.size
  have hs : ((wr.alloc (.cells (encQ4 Q4.nil).toArray 2)).alloc o).heap.size = wr.heap.size + 2 := by simp
  refine ⟨((h.hb.alloc b0 _).alloc (by simp; omega) _).grown hg9 (by rw [hs]; omega) (own_ge h.o), own9, ?_, by rw [List.length_append]; simp [h.len]⟩
  exact PTab.push (w := wr.alloc (.cells (encQ4 Q4.nil).toArray 2)) (base := w.heap.size) (gs := gs) (qs := qs) ⟨⟨h.q.1.1, fun i g hg => ⟨(h.q.1.2 i g hg).1, (h.q.1.2 i g hg).2.alloc _⟩⟩, h.q.2⟩ h.len (h.o.alloc _) (Blk.new wr _ _) b0 h.q.lt o hg9
theorem PTin.ret {w w1 : World} {A' : Option Addr} {c' : Nat} {gs : List Nat} {rs : List Fac} (h : PTin w A' 4 c' gs (pcT rs rs.length) w1) : RetPT w (pcAll rs) (.returned (.slice A' 4 c')) w1 := by
  refine ⟨A', c', gs, ret_slice (pcT_len _ _).symm, ?_, h.q, h.hb⟩
  rw [pcT_len]; exact h.o
theorem own_cell {w : World} {base n c : Nat} {A : Option Addr} {xs : List Int} (h : w.ownsRow base 2 1 (.slice A n c) n (xs.flatMap intE)) (hl : xs.length = n) {i : Nat} (hi : i < n) :
    ∃ g, A = some ⟨g, 0, none⟩ ∧ base ≤ g ∧ g < w.heap.size ∧ w.cell? ⟨g, i, none⟩ = some (.int .i64 (xs.getD i 0)) := by
  obtain ⟨g, cp, hv, h1, h2⟩ := h.form (by omega)
  obtain rfl : A = some ⟨g, 0, none⟩ := by injection hv
  refine ⟨g, rfl, h1, h2, ?_⟩
  have := own_at (sz := 1) (enc := intE) (fun _ _ => rfl) h hl 0 i hi 0 (by omega)
  rw [Nat.mul_one, Nat.add_zero] at this; exact this
end Go.Proofs.Ytfanphhlagjkdaa


/-
  The number of runs: in the program and in the reference.
-/
namespace Go.Proofs.Ytfanphhlagjkdaa
open Go.RowKit

def offA (qs : List Q4) (k l : Nat) : Int := if k = l then 0 else (qs.getD k Q4.nil).at_ l
def rowOff (qs : List Q4) (k : Nat) : Int := sumTo (offA qs k) 4
def diagA (qs : List Q4) (k : Nat) : Int := (qs.getD k Q4.nil).at_ k
theorem off_diag (qs : List Q4) : sumTo (rowOff qs) 4 + sumTo (diagA qs) 4 = totT qs := by
  simp only [sumTo, rowOff, offA, diagA, totT, Q4.sum, Q4.at_, if_true, show ¬ (0 : Nat) = 1 by omega, show ¬ (0 : Nat) = 2 by omega, show ¬ (0 : Nat) = 3 by omega, show ¬ (1 : Nat) = 0 by omega, show ¬ (1 : Nat) = 2 by omega, show ¬ (1 : Nat) = 3 by omega,
    show ¬ (2 : Nat) = 0 by omega, show ¬ (2 : Nat) = 1 by omega, show ¬ (2 : Nat) = 3 by omega, show ¬ (3 : Nat) = 0 by omega, show ¬ (3 : Nat) = 1 by omega, show ¬ (3 : Nat) = 2 by omega, if_false]
  omega
def runsN (rs : List Fac) : Int := if rs.length = 0 then 0 else 1 + sumTo (rowOff (pcAll rs)) 4
theorem runs_spec {rs : List Fac} {ls : List Int} (hls : gLens rs [] = some ls) (hll : ls.length = rs.length) : lastI ls - sumTo (diagA (pcAll rs)) 4 = runsN rs := by
  unfold runsN
  split
  · rename_i h
    have h1 := List.eq_nil_of_length_eq_zero h
    subst h1
    have h2 := List.eq_nil_of_length_eq_zero hll
    subst h2
    rfl
  · have := off_diag (pcAll rs)
    rw [pc_total hls hll (by omega)] at this
    omega
def runsV (rs : List Fac) : Value := if (gOk rs).isSome = false then tup2 0 1 else tup2 (runsN rs) 0
theorem runsV_form (rs : List Fac) : ∃ b k, runsV rs = .tuple #[.int .i64 b, .int .i64 k] := by
  unfold runsV
  split
  · exact ⟨_, _, rfl⟩
  · exact ⟨_, _, rfl⟩
theorem runsV1 {rs : List Fac} (h : (gOk rs).isSome = false) : runsV rs = tup2 0 1 := by unfold runsV; rw [if_pos h]
theorem runsV2 {rs : List Fac} (h : (gOk rs).isSome = true) : runsV rs = tup2 (runsN rs) 0 := by unfold runsV; rw [if_neg (by rw [h]; decide)]
theorem offA_b {rs : List Fac} {ls : List Int} (hls : gLens rs [] = some ls) (hll : ls.length = rs.length) (hn : rs.length ≤ 400) (k l : Nat) : 0 ≤ ((pcAll rs).getD k Q4.nil).at_ l ∧ ((pcAll rs).getD k Q4.nil).at_ l ≤ 400000000000000000 := by
  have := pcT_bd hls hll rs.length (Nat.le_refl _) k l
  exact ⟨this.1, Int.le_trans this.2 (by omega)⟩
set_option maxHeartbeats 4000000 in
set_option maxRecDepth 100000 in
theorem implRuns_any (A : Option Addr) (n c : Nat) (rs : List Fac) (w : World) (hn : n ≤ 1048576) (hr : Rd w w.heap.size A n 3 Fac.cells rs) (hok : ∀ f ∈ rs, f.l.size ≤ maxLen) :
    Calls Try.prog 16 #[.agg #[.slice A n c]] w (Ret (runsV rs) w) := by
  have hl := Lib.hid hr.len
  have HR := Lib.hid hr; clear hr
  have HO := Lib.hid hok; clear hok
  rcases hg : (gOk rs).isSome with _ | _
  · have e := Lib.hid (runsV1 hg)
    have Hg := Lib.hid hg; clear hg
    go_enter Try.func16, Try.ntmps16
    go_wp2_with fail
    refine namedC fun w0 H0 => ?_
    have hb0 : Below w.heap.size w w0 := by rw [H0.out]; (repeat first | exact Below.refl _ _ | assumption | refine Below.drew ?_ | refine Below.alloc ?_ (by first | exact Nat.le_refl _ | (simp; done) | omega | (simp; omega)) _ | refine Below.setCell ?_ (by first | exact Nat.le_refl _ | (simp; done) | omega | (simp; omega)) _)
    clear H0
    refine (validG_any A n c rs w0 (by omega) (HR.out.next hb0) HO.out false Hg.out).mono ?_
    rintro e1 w1 ⟨rfl, hb1⟩
    go_wp2_with fail
    go_ret2
    exact ⟨by rw [e.out]; rfl, hb0.trans (hb1.mono hb0.size)⟩
  have HG := Lib.hid hg
  have e := Lib.hid (runsV2 hg)
  obtain ⟨ls, hls⟩ := Option.isSome_iff_exists.1 hg
  have HL := Lib.hid (gOk_lens hls).1
  have Hll := Lib.hid (gOk_lens hls).2.2
  have hn4 : n ≤ 400 := by have := (gOk_lens hls).2.1; have := hl.out; omega
  clear hg hls
  go_enter Try.func16, Try.ntmps16
  go_wp2_with fail
  refine namedC fun w0 H0 => ?_
  have hb0 : Below w.heap.size w w0 := by rw [H0.out]; (repeat first | exact Below.refl _ _ | assumption | refine Below.drew ?_ | refine Below.alloc ?_ (by first | exact Nat.le_refl _ | (simp; done) | omega | (simp; omega)) _ | refine Below.setCell ?_ (by first | exact Nat.le_refl _ | (simp; done) | omega | (simp; omega)) _)
  have G0 := Lib.hid (show Blk w0 w.heap.size 26 #[.slice A n c] by rw [H0.out]; exact Blk.new _ _ _)
  clear H0
  refine (validG_any A n c rs w0 (by omega) (HR.out.next hb0) HO.out true HG.out).mono ?_
  rintro e1 w1 ⟨rfl, hb1⟩
  have b1 := Lib.hid (hb0.trans (hb1.mono hb0.size))
  have G1 := Lib.hid (G0.out.next hb1)
  have cg := G1.out.cell 0
  have lg := G1.out.lt
  clear hb0 hb1 G0
  rcases Nat.eq_zero_or_pos n with hn0 | hn1
  · have e2 := Lib.hid (show runsN rs = 0 by unfold runsN; rw [if_pos (by rw [hl.out]; exact hn0)])
    subst hn0
    go_wp2_with fail
    go_ret2
    exact ⟨by rw [e.out, e2.out]; rfl, b1.out⟩
  have e2 := Lib.hid (show runsN rs = 1 + sumTo (rowOff (pcAll rs)) 4 by unfold runsN; rw [if_neg (by rw [hl.out]; omega)])
  go_wp2_with fail
  refine (implPairs_any A n c rs ls w1 (by omega) ((HR.out.below b1.out).more b1.out.size) HL.out Hll.out).mono ?_
  rintro e3 w2 ⟨A3, c3, gs, rfl, own3, row3, hb2⟩
  have T := Lib.hid (Tab.of rfl own3 row3.1)
  have b2 := Lib.hid (b1.out.trans (hb2.mono b1.out.size))
  have OB := Lib.hid (offA_b HL.out Hll.out (by rw [hl.out]; exact hn4))
  rw [show (pcAll rs).length = 4 from pcT_len _ _] at T ⊢
  clear own3 row3 hb2 cg lg
  generalize pcAll rs = qs at *
  go_wp2_with fail
  rename World => wo
  go_loopw [4, 19] (fun o_ k_ w' => ∃ (k : Nat) (o : Int), k_ = .int .i64 k ∧ o_ = .int .i64 o ∧ k ≤ 4 ∧ Below wo.heap.size wo w' ∧ Hid (o = 1 + sumTo (rowOff qs) k) ∧ 0 ≤ o ∧ o ≤ 1 + 4 * 400000000000000000 * (k : Int)) (fun _ k_ _ => 4 - (intOf k_).toNat)
  case atStart => exact ⟨0, 1, rfl, rfl, by omega, Below.refl _ _, Lib.hid rfl, by omega, by omega⟩
  case round =>
    obtain ⟨k, o, rfl, rfl, hk, hb, hO, o0, o1⟩ := hrel
    by_cases hlt : k < 4
    · obtain ⟨p, q, g, rfl, hB1, hgr, d1, d2⟩ := (T.out.next hb).2 k hlt
      have D2 := Lib.hid d2
      clear d2
      go_wp2_with fail
      rename World => wi
      go_loopw [4, 26] (fun o_ l_ w' => ∃ (l : Nat) (o2 : Int), l_ = .int .i64 l ∧ o_ = .int .i64 o2 ∧ l ≤ 4 ∧ w' = wi ∧ Hid (o2 = o + sumTo (offA qs k) l) ∧ 0 ≤ o2 ∧ o2 ≤ 1 + 4 * 400000000000000000 * (k : Int) + 400000000000000000 * (l : Int)) (fun _ l_ _ => 4 - (intOf l_).toNat)
      case atStart => exact ⟨0, o, rfl, rfl, by omega, rfl, Lib.hid (by show o = o + 0; omega), by omega, by omega⟩
      case round =>
        obtain ⟨l, o2, rfl, rfl, hl4, rfl, hO2, o20, o21⟩ := hrel
        by_cases hlt2 : l < 4
        · have s1 := D2.out l hlt2
          have ob := OB.out k l
          generalize hv : (qs.getD k Q4.nil).at_ l = v at *
          have Hv := Lib.hid hv; clear hv
          by_cases hkl : k = l
          · have e5 := Lib.hid (show sumTo (offA qs k) (l + 1) = sumTo (offA qs k) l by show sumTo (offA qs k) l + offA qs k l = _; unfold offA; rw [if_pos hkl]; omega)
            have e6 : ((k : Int) != (l : Int)) = false := by simp; omega
            clear hkl
            go_wp2_with fail
            go_roundw
            case rel => exact ⟨l + 1, o2, by go_num, rfl, by omega, trivial, Lib.hid (by rw [e5.out]; exact hO2.out), by omega, by omega⟩
            case measure => simp [intOf]; omega
          · have e5 := Lib.hid (show sumTo (offA qs k) (l + 1) = sumTo (offA qs k) l + v by show sumTo (offA qs k) l + offA qs k l = _; unfold offA; rw [if_neg hkl, Hv.out])
            have e6 : ((k : Int) != (l : Int)) = true := by simp; omega
            clear hkl
            go_wp2_with fail
            go_roundw
            case rel => exact ⟨l + 1, o2 + v, by go_num, rfl, by omega, trivial, Lib.hid (by rw [e5.out, hO2.out]; omega), by omega, by omega⟩
            case measure => simp [intOf]; omega
        · obtain rfl : l = 4 := by omega
          go_wp2_with fail
          go_roundw
          case rel => exact ⟨k + 1, o2, by go_num, rfl, by omega, hb, Lib.hid (by rw [hO2.out, hO.out]; show _ = 1 + (sumTo (rowOff qs) k + rowOff qs k); unfold rowOff; omega), by omega, by omega⟩
          case measure => simp [intOf]; omega
    · obtain rfl : k = 4 := by omega
      go_wp2_with fail
      go_ret2
      exact ⟨by rw [e.out, e2.out, hO.out]; rfl, b2.out.trans (hb.mono b2.out.size)⟩
end Go.Proofs.Ytfanphhlagjkdaa


/-
  What rules add, each as often as it is met; the pairs of letters of a word.
-/
namespace Go.Proofs.Ytfanphhlagjkdaa

theorem sum_one (n a : Nat) (v : Int) (f : Nat → Int) (h : a < n) : sumTo (fun j => (if j = a then v else 0) * f j) n = v * f a := by
  rw [sumTo_upd (g := fun _ => 0) a h (fun j _ hne => by simp [hne]), sumTo_zero (fun _ _ => rfl)]
  simp
theorem use_go {rs : List Fac} (hwf : WF rs) (c dl : Nat → Int) (hp : ∀ (i : Nat) (r : Fac), rs[i]? = some r → r.l.size = 0 → c i = c r.a.toNat + c r.b.toNat + dl i)
    (hl : ∀ (i : Nat) (r : Fac), rs[i]? = some r → r.l.size ≠ 0 → c i = 0 ∧ dl i = 0) (T : Int) :
    ∀ (m : Nat) (us : List Int), m ≤ rs.length → us.length = rs.length → sumTo (fun j => us.getD j 0 * c j) m + (sumTo (fun j => us.getD j 0 * dl j) rs.length - sumTo (fun j => us.getD j 0 * dl j) m) = T →
      sumTo (fun j => (useGo rs m us).getD j 0 * dl j) rs.length = T
  | 0, us, _, _, h => by
    have e1 : sumTo (fun j => us.getD j 0 * c j) 0 = 0 := rfl
    have e2 : sumTo (fun j => us.getD j 0 * dl j) 0 = 0 := rfl
    show sumTo (fun j => us.getD j 0 * dl j) rs.length = T
    omega
  | i + 1, us, hm, hlen, h => by
    have hr : rs[i]? = some rs[i] := List.getElem?_eq_getElem (by omega)
    have e1 : sumTo (fun j => us.getD j 0 * c j) (i + 1) = sumTo (fun j => us.getD j 0 * c j) i + us.getD i 0 * c i := rfl
    have e2 : sumTo (fun j => us.getD j 0 * dl j) (i + 1) = sumTo (fun j => us.getD j 0 * dl j) i + us.getD i 0 * dl i := rfl
    show sumTo (fun j => (useGo rs i (usStep rs us i)).getD j 0 * dl j) rs.length = T
    unfold usStep
    rw [fac_getD hr]
    rcases hwf i _ hr with ⟨h0, a0, a1, b0, b1⟩ | ⟨u, _, hlu, _, _⟩
    · rw [if_pos h0]
      have hc := hp i _ hr h0
      refine use_go hwf c dl hp hl T i _ (by omega) (by rw [usePair_len]; exact hlen) ?_
      have hat := usePair_at (us := us) (a := rs[i].a.toNat) (b := rs[i].b.toNat) (i := i) (by omega) (by omega)
      have s1 : sumTo (fun j => (usePair us rs[i].a.toNat rs[i].b.toNat i).getD j 0 * c j) i = sumTo (fun j => us.getD j 0 * c j) i + us.getD i 0 * c rs[i].a.toNat + us.getD i 0 * c rs[i].b.toNat := by
        rw [sumTo_congr (g := fun j => (us.getD j 0 * c j + (if j = rs[i].a.toNat then us.getD i 0 else 0) * c j) + (if j = rs[i].b.toNat then us.getD i 0 else 0) * c j) (fun j _ => by rw [hat, Int.add_mul, Int.add_mul]), sumTo_add, sumTo_add, sum_one _ _ _ _ (by omega), sum_one _ _ _ _ (by omega)]
      have s2 : sumTo (fun j => (usePair us rs[i].a.toNat rs[i].b.toNat i).getD j 0 * dl j) rs.length - sumTo (fun j => (usePair us rs[i].a.toNat rs[i].b.toNat i).getD j 0 * dl j) i = sumTo (fun j => us.getD j 0 * dl j) rs.length - sumTo (fun j => us.getD j 0 * dl j) i :=
        sumTo_diff (by omega) (fun j h1 h2 => by rw [hat, if_neg (by omega), if_neg (by omega)]; simp)
      have s3 : us.getD i 0 * c i = us.getD i 0 * c rs[i].a.toNat + us.getD i 0 * c rs[i].b.toNat + us.getD i 0 * dl i := by rw [hc, Int.mul_add, Int.mul_add]
      omega
    · have hz : rs[i].l.size ≠ 0 := by rw [hlu]; show (1 : Nat) ≠ 0; omega
      rw [if_neg hz]
      obtain ⟨z1, z2⟩ := hl i _ hr hz
      refine use_go hwf c dl hp hl T i us (by omega) hlen ?_
      rw [z1] at e1
      rw [z2] at e2
      simp only [Int.mul_zero] at e1 e2
      omega
/-- what is added at each rule of a pair, over all places where it is met -/
theorem use_sum {rs : List Fac} (hwf : WF rs) (h0 : 0 < rs.length) (c dl : Nat → Int) (hp : ∀ (i : Nat) (r : Fac), rs[i]? = some r → r.l.size = 0 → c i = c r.a.toNat + c r.b.toNat + dl i)
    (hl : ∀ (i : Nat) (r : Fac), rs[i]? = some r → r.l.size ≠ 0 → c i = 0 ∧ dl i = 0) : sumTo (fun j => (usesOf rs).getD j 0 * dl j) rs.length = c (rs.length - 1) := by
  refine use_go hwf c dl hp hl _ rs.length (us0 rs.length) (Nat.le_refl _) (by simp [us0]) ?_
  have e : sumTo (fun j => (us0 rs.length).getD j 0 * c j) rs.length = c (rs.length - 1) := by
    rw [sumTo_congr (g := fun j => (if j = rs.length - 1 then 1 else 0) * c j) (fun j _ => by rw [use0_at _ _ h0]), sum_one _ _ _ _ (by omega)]
    simp
  omega
/-- how often a letter stands right behind one -/
def adj (k l : Nat) : List Nat → Int
  | [] => 0
  | x :: r => (if x = k ∧ r.head? = some l then 1 else 0) + adj k l r
theorem adj_app (k l : Nat) : ∀ (u v : List Nat), u ≠ [] → adj k l (u ++ v) = adj k l u + adj k l v + if u.getLast? = some k ∧ v.head? = some l then 1 else 0
  | [], _, h => absurd rfl h
  | [x], v, _ => by
    simp only [List.singleton_append, adj, List.head?_nil, List.getLast?_singleton, Option.some.injEq]
    simp; omega
  | x :: y :: r, v, _ => by
    have ih := adj_app k l (y :: r) v (by simp)
    have e : (y :: r ++ v).head? = some y := rfl
    show (if x = k ∧ (y :: r ++ v).head? = some l then 1 else 0) + adj k l (y :: r ++ v) = (if x = k ∧ (y :: r).head? = some l then 1 else 0) + adj k l (y :: r) + adj k l v + _
    rw [ih, e, List.head?_cons, List.getLast?_cons_cons]; omega
theorem edf_word {rs : List Fac} (hwf : WF rs) {k : Nat} (hk : k < rs.length) : (edf rs).getD k 0 = ((((wds rs).getD k []).head?.getD 0 : Nat) : Int) :=
  full_hom (d := (0 : Int)) (F := edF) (G := edGf) hwf (fun u => ((u.head?.getD 0 : Nat) : Int)) (fun k _ => rfl) (fun u v r hu _ _ _ => by
    obtain ⟨x, t, rfl⟩ := List.exists_cons_of_ne_nil hu; rfl) k hk
theorem edl_word {rs : List Fac} (hwf : WF rs) {k : Nat} (hk : k < rs.length) : (edl rs).getD k 0 = ((((wds rs).getD k []).getLast?.getD 0 : Nat) : Int) :=
  full_hom (d := (0 : Int)) (F := edF) (G := edGl) hwf (fun u => ((u.getLast?.getD 0 : Nat) : Int)) (fun k _ => rfl) (fun u v r _ hv _ _ => by
    simp only [edGl]
    rw [List.getLast?_append, List.getLast?_eq_some_getLast hv]; rfl) k hk
theorem Q4.plus_at (q : Q4) {l j : Nat} (hl : l < 4) (hj : j < 4) (v : Int) : (q.plus l v).at_ j = q.at_ j + if j = l then v else 0 := by
  match l, hl, j, hj with
  | 0, _, 0, _ => rfl
  | 0, _, 1, _ => simp [Q4.plus, Q4.at_]
  | 0, _, 2, _ => simp [Q4.plus, Q4.at_]
  | 0, _, 3, _ => simp [Q4.plus, Q4.at_]
  | 1, _, 0, _ => simp [Q4.plus, Q4.at_]
  | 1, _, 1, _ => rfl
  | 1, _, 2, _ => simp [Q4.plus, Q4.at_]
  | 1, _, 3, _ => simp [Q4.plus, Q4.at_]
  | 2, _, 0, _ => simp [Q4.plus, Q4.at_]
  | 2, _, 1, _ => simp [Q4.plus, Q4.at_]
  | 2, _, 2, _ => rfl
  | 2, _, 3, _ => simp [Q4.plus, Q4.at_]
  | 3, _, 0, _ => simp [Q4.plus, Q4.at_]
  | 3, _, 1, _ => simp [Q4.plus, Q4.at_]
  | 3, _, 2, _ => simp [Q4.plus, Q4.at_]
  | 3, _, 3, _ => rfl
theorem addT_at {qs : List Q4} (hq : qs.length = 4) {k l k' l' : Nat} (hk : k < 4) (hl : l < 4) (hl' : l' < 4) (v : Int) : ((addT qs k l v).getD k' Q4.nil).at_ l' = (qs.getD k' Q4.nil).at_ l' + if k' = k ∧ l' = l then v else 0 := by
  unfold addT
  rw [qgetD_set _ _ _ _ (by omega)]
  by_cases h : k' = k
  · rw [if_pos h, Q4.plus_at _ hl hl', h]
    simp
  · rw [if_neg h, if_neg (fun q => h q.1)]; omega
/-- what a pair's rule adds -/
def adD (rs : List Fac) (k l j : Nat) : Int := if (rs.getD j default).l.size = 0 then (if ((wds rs).getD (rs.getD j default).a.toNat []).getLast? = some k ∧ ((wds rs).getD (rs.getD j default).b.toNat []).head? = some l then 1 else 0) else 0
theorem pcT_word {rs : List Fac} (hwf : WF rs) {k l : Nat} (_hk : k < 4) (hl : l < 4) : ∀ i, i ≤ rs.length → ((pcT rs i).getD k Q4.nil).at_ l = sumTo (fun j => (usesOf rs).getD j 0 * adD rs k l j) i
  | 0, _ => by
    have e : sumTo (fun j => (usesOf rs).getD j 0 * adD rs k l j) 0 = 0 := rfl
    rw [e]
    unfold pcT
    match k, _hk with
    | 0, _ => match l, hl with | 0, _ => rfl | 1, _ => rfl | 2, _ => rfl | 3, _ => rfl
    | 1, _ => match l, hl with | 0, _ => rfl | 1, _ => rfl | 2, _ => rfl | 3, _ => rfl
    | 2, _ => match l, hl with | 0, _ => rfl | 1, _ => rfl | 2, _ => rfl | 3, _ => rfl
    | 3, _ => match l, hl with | 0, _ => rfl | 1, _ => rfl | 2, _ => rfl | 3, _ => rfl
  | i + 1, hi => by
    have ih := pcT_word hwf _hk hl i (by omega)
    have hr : rs[i]? = some rs[i] := List.getElem?_eq_getElem (by omega)
    have e : sumTo (fun j => (usesOf rs).getD j 0 * adD rs k l j) (i + 1) = sumTo (fun j => (usesOf rs).getD j 0 * adD rs k l j) i + (usesOf rs).getD i 0 * adD rs k l i := rfl
    rw [e, ← ih]
    rcases hwf i _ hr with ⟨h0, a0, a1, b0, b1⟩ | ⟨u, _, hlu, _, _⟩
    · rw [pcT_pair hr h0]
      unfold adD
      rw [fac_getD hr, if_pos h0]
      have la := edl_word hwf (k := rs[i].a.toNat) (by omega)
      have fb := edf_word hwf (k := rs[i].b.toNat) (by omega)
      obtain ⟨x, t, hx⟩ := List.exists_cons_of_ne_nil (wds_pos hwf (k := rs[i].b.toNat) (by omega))
      have hne := wds_pos hwf (k := rs[i].a.toNat) (by omega)
      have hla := List.getLast?_eq_some_getLast hne
      have b1' := wds_let hwf (k := rs[i].a.toNat) (by omega) _ (List.getLast_mem hne)
      have b2' := wds_let hwf (k := rs[i].b.toNat) (by omega) x (by rw [hx]; simp)
      rw [hla] at la ⊢
      rw [hx] at fb ⊢
      simp only [Option.getD_some, List.head?_cons] at la fb ⊢
      rw [la, fb, Int.toNat_natCast, Int.toNat_natCast, addT_at (pcT_len _ _) b1' b2' hl]
      simp only [Option.some.injEq]
      split
      · rename_i h; rw [if_pos ⟨h.1.symm, h.2.symm⟩]; simp
      · rename_i h; rw [if_neg (fun q => h ⟨q.1.symm, q.2.symm⟩)]; simp
    · have hz : rs[i].l.size ≠ 0 := by rw [hlu]; show (1 : Nat) ≠ 0; omega
      rw [pcT_let hr hz]
      unfold adD
      rw [fac_getD hr, if_neg hz]; simp
/-- the pairs of letters are those of the word -/
theorem pc_word {rs : List Fac} (hwf : WF rs) {k l : Nat} (hk : k < 4) (hl : l < 4) : ((pcAll rs).getD k Q4.nil).at_ l = adj k l (wdN rs) := by
  unfold pcAll
  rw [pcT_word hwf hk hl _ (Nat.le_refl _)]
  unfold wdN
  split
  · rename_i h; subst h; rfl
  · rename_i h
    have h0 : 0 < rs.length := List.length_pos_iff.2 h
    refine use_sum hwf h0 (fun j => adj k l ((wds rs).getD j [])) (adD rs k l) (fun i r hr hz => ?_) (fun i r hr hz => ?_)
    · have hi := (List.getElem?_eq_some_iff.1 hr).1
      rcases hwf i r hr with ⟨_, a0, a1, b0, b1⟩ | ⟨u, _, hlu, _, _⟩
      · unfold adD
        rw [fac_getD hr, if_pos hz]
        rw [show (wds rs).getD i [] = (wds rs).getD r.a.toNat [] ++ (wds rs).getD r.b.toNat [] from full_pair [] wdF wdG hwf hr hz, adj_app k l _ _ (wds_pos hwf (by omega))]
      · rw [hlu] at hz; exact absurd hz (show ¬ (1 : Nat) = 0 by omega)
    · unfold adD
      rw [fac_getD hr, if_neg hz]
      refine ⟨?_, rfl⟩
      rw [show (wds rs).getD i [] = [letN r.l] from full_let [] wdF wdG hr hz]
      simp [adj]
end Go.Proofs.Ytfanphhlagjkdaa


/-
  The runs of a word: how many there are, and how long they are.
-/
namespace Go.Proofs.Ytfanphhlagjkdaa

def rStep (acc : List (Nat × Int)) (k : Nat) : List (Nat × Int) :=
  match acc.getLast? with
  | some r => if r.1 = k then acc.dropLast ++ [(k, r.2 + 1)] else acc ++ [(k, 1)]
  | none => [(k, 1)]
def runsL (u : List Nat) : List (Nat × Int) := u.foldl rStep []
theorem runsL_snoc (u : List Nat) (k : Nat) : runsL (u ++ [k]) = rStep (runsL u) k := by unfold runsL; rw [List.foldl_append]; rfl
theorem rStep_last (t : List (Nat × Int)) (l : Nat) (c : Int) (k : Nat) : rStep (t ++ [(l, c)]) k = if l = k then t ++ [(k, c + 1)] else (t ++ [(l, c)]) ++ [(k, 1)] := by
  unfold rStep
  rw [List.getLast?_concat, List.dropLast_concat]
/-- the last run -/
theorem runsL_last (u : List Nat) (k : Nat) : ∃ (t : List (Nat × Int)) (c : Int), runsL (u ++ [k]) = t ++ [(k, c)] ∧ 1 ≤ c ∧ c ≤ (u ++ [k]).length := by
  refine snoc_ind (P := fun u => ∀ k, ∃ (t : List (Nat × Int)) (c : Int), runsL (u ++ [k]) = t ++ [(k, c)] ∧ 1 ≤ c ∧ c ≤ (u ++ [k]).length) ?_ ?_ u k
  · intro k
    exact ⟨[], 1, rfl, by omega, by simp⟩
  · intro u j ih k
    obtain ⟨t, c, h1, h2, h3⟩ := ih j
    rw [runsL_snoc, h1, rStep_last]
    by_cases h : j = k
    · rw [if_pos h]
      exact ⟨t, c + 1, rfl, by omega, by simp only [List.length_append, List.length_singleton] at *; omega⟩
    · rw [if_neg h]
      exact ⟨t ++ [(j, c)], 1, rfl, by omega, by simp; omega⟩
def mx (l : Nat) (rs : List (Nat × Int)) : Int := rs.foldl (fun a r => if r.1 = l then max a r.2 else a) 0
theorem mx_snoc (l : Nat) (t : List (Nat × Int)) (r : Nat × Int) : mx l (t ++ [r]) = if r.1 = l then max (mx l t) r.2 else mx l t := by unfold mx; rw [List.foldl_append]; rfl
theorem lr_runs (l : Nat) (u : List Nat) : (lrW l u).m = mx l (runsL u) ∧ ∀ t k c, runsL u = t ++ [(k, c)] → (lrW l u).l = if k = l then c else 0 := by
  refine snoc_ind (P := fun u => (lrW l u).m = mx l (runsL u) ∧ ∀ t k c, runsL u = t ++ [(k, c)] → (lrW l u).l = if k = l then c else 0) ?_ ?_ u
  · exact ⟨rfl, fun t k c h => by simp [runsL] at h⟩
  · intro u x ⟨hm, hl⟩
    have hok := (lrW_ok l u).1
    rw [lrW_snoc, runsL_snoc]
    have hu : u = [] ∨ ∃ v y, u = v ++ [y] := by
      rcases List.eq_nil_or_concat u with h | ⟨v, y, h⟩
      · exact .inl h
      · exact .inr ⟨v, y, by rw [h, List.concat_eq_append]⟩
    rcases hu with rfl | ⟨v, y, rfl⟩
    · have e : runsL [] = [] := rfl
      rw [e]
      have e2 : rStep [] x = [(x, 1)] := rfl
      rw [e2]
      have e3 : lrW l [] = rc0 := rfl
      rw [e3, rc_nil_j]
      unfold lrU
      refine ⟨?_, fun t k c h => ?_⟩
      · by_cases q : l = x
        · rw [if_pos q]; unfold mx; simp [q]; rfl
        · rw [if_neg q]; unfold mx; simp; intro e; exact absurd e.symm q
      · have h2 : t = [] ∧ (x, (1 : Int)) = (k, c) := by
          have : t ++ [(k, c)] = [] ++ [(x, (1 : Int))] := by rw [← h]; rfl
          have := List.append_inj' this rfl
          exact ⟨this.1, by injection this.2 with h5; exact h5.symm⟩
        injection h2.2 with h3 h4
        subst h3 h4
        by_cases q : l = x
        · rw [if_pos q, if_pos q.symm]
        · rw [if_neg q, if_neg (fun e => q e.symm)]
    · obtain ⟨t, c, h1, h2, _⟩ := runsL_last v y
      have hl1 := hl t y c h1
      rw [h1, mx_snoc] at hm
      simp only at hm
      rw [h1, rStep_last]
      generalize lrW l (v ++ [y]) = z at *
      have z1 := hok.l0
      have z2 := hok.lm
      have z3 := hok.m0
      have z4 : 0 ≤ z.f := hok.f0
      have lst : ∀ (a : List (Nat × Int)) (r : Nat × Int) t' k c', a ++ [r] = t' ++ [(k, c')] → r = (k, c') := fun a r t' k c' h => by
        have := (List.append_inj' h rfl).2
        injection this
      have eJ : ∀ q : Rc, (lrJ z q).m = max (max z.m q.m) (z.l + q.f) ∧ (lrJ z q).l = if q.l = q.n then q.l + z.l else q.l := fun q => ⟨rfl, rfl⟩
      rw [(eJ _).1, (eJ _).2]
      by_cases hxl : l = x
      · have eU : lrU x l = ⟨1, 1, 1, 1⟩ := by unfold lrU; rw [if_pos hxl]
        rw [eU]
        simp only [if_true]
        by_cases hyx : y = x
        · rw [if_pos hyx, mx_snoc]
          rw [if_pos (hyx.trans hxl.symm)] at hl1 hm
          simp only
          rw [if_pos hxl.symm]
          refine ⟨by omega, fun t' k c' h => ?_⟩
          have := lst _ _ _ _ _ h
          injection this with e1 e2
          rw [← e1, if_pos hxl.symm, ← e2]; omega
        · rw [if_neg hyx, mx_snoc, mx_snoc]
          have hyl : ¬ y = l := fun e => hyx (e.trans hxl)
          rw [if_neg hyl] at hl1 hm
          simp only
          rw [if_pos hxl.symm, if_neg hyl]
          refine ⟨by omega, fun t' k c' h => ?_⟩
          have := lst _ _ _ _ _ h
          injection this with e1 e2
          rw [← e1, if_pos hxl.symm, ← e2]; omega
      · have eU : lrU x l = ⟨0, 0, 0, 1⟩ := by unfold lrU; rw [if_neg hxl]
        have hxl' : ¬ x = l := fun e => hxl e.symm
        rw [eU]
        simp only [show ¬ (0 : Int) = 1 by omega, if_false]
        by_cases hyx : y = x
        · rw [if_pos hyx, mx_snoc]
          have hyl : ¬ y = l := fun e => hxl' (hyx.symm.trans e)
          rw [if_neg hyl] at hl1 hm
          simp only
          rw [if_neg hxl']
          refine ⟨by omega, fun t' k c' h => ?_⟩
          have := lst _ _ _ _ _ h
          injection this with e1 e2
          rw [← e1, if_neg hxl']
        · rw [if_neg hyx, mx_snoc, mx_snoc]
          simp only
          rw [if_neg hxl']
          refine ⟨by rw [← hm]; omega, fun t' k c' h => ?_⟩
          have := lst _ _ _ _ _ h
          injection this with e1 e2
          rw [← e1, if_neg hxl']
/-- pairs of unlike letters -/
def offW (u : List Nat) : Int := sumTo (fun k => sumTo (fun l => if k = l then 0 else adj k l u) 4) 4
theorem offW_snoc (u : List Nat) (y x : Nat) (hy : y < 4) (hx : x < 4) : offW ((u ++ [y]) ++ [x]) = offW (u ++ [y]) + if y = x then 0 else 1 := by
  have e : ∀ k l, adj k l ((u ++ [y]) ++ [x]) = adj k l (u ++ [y]) + if y = k ∧ x = l then 1 else 0 := fun k l => by
    rw [adj_app k l (u ++ [y]) [x] (by simp), List.getLast?_concat]
    simp [adj]
  unfold offW
  simp only [e, sumTo]
  rcases (show y = 0 ∨ y = 1 ∨ y = 2 ∨ y = 3 by omega) with rfl | rfl | rfl | rfl <;> rcases (show x = 0 ∨ x = 1 ∨ x = 2 ∨ x = 3 by omega) with rfl | rfl | rfl | rfl <;> simp <;> omega
theorem runs_len (u : List Nat) (k : Nat) (h : ∀ x ∈ u ++ [k], x < 4) : ((runsL (u ++ [k])).length : Int) = 1 + offW (u ++ [k]) := by
  refine snoc_ind (P := fun u => ∀ k, (∀ x ∈ u ++ [k], x < 4) → ((runsL (u ++ [k])).length : Int) = 1 + offW (u ++ [k])) ?_ ?_ u k h
  · intro k _
    have e1 : runsL ([] ++ [k]) = [(k, 1)] := rfl
    have e2 : offW ([] ++ [k]) = 0 := by unfold offW; simp [sumTo, adj]
    rw [e1, e2]; rfl
  · intro u y ih k h
    have hy := h y (by simp)
    have hk := h k (by simp)
    obtain ⟨t, c, h1, _, _⟩ := runsL_last u y
    have hi := ih y (fun x hx => h x (by simp at hx ⊢; rcases hx with hx | hx; exact .inl hx; exact .inr (.inl hx)))
    rw [runsL_snoc, h1, rStep_last, offW_snoc u y k hy hk]
    rw [h1] at hi
    by_cases q : y = k
    · rw [if_pos q, if_pos q]
      simp only [List.length_append, List.length_singleton] at hi ⊢; omega
    · rw [if_neg q, if_neg q]
      simp only [List.length_append, List.length_singleton] at hi ⊢; omega
theorem runsN_word {rs : List Fac} (hwf : WF rs) : runsN rs = ((runsL (wdN rs)).length : Int) := by
  unfold runsN
  split
  · rename_i h
    have : rs = [] := List.eq_nil_of_length_eq_zero h
    subst this
    rfl
  · rename_i h
    have hne : wdN rs ≠ [] := by
      unfold wdN
      rw [if_neg (by intro e; rw [e] at h; simp at h)]
      exact wds_pos hwf (by omega)
    have hl := wdN_let hwf
    have e : sumTo (rowOff (pcAll rs)) 4 = offW (wdN rs) := by
      unfold offW
      apply sumTo_congr
      intro k hk
      unfold rowOff
      apply sumTo_congr
      intro l hl4
      unfold offA
      split
      · rfl
      · exact pc_word hwf hk hl4
    rw [e]
    generalize wdN rs = u at *
    rcases List.eq_nil_or_concat u with q | ⟨v, y, q⟩
    · exact absurd q hne
    · rw [List.concat_eq_append] at q
      rw [q] at hl ⊢
      rw [runs_len v y hl]
end Go.Proofs.Ytfanphhlagjkdaa


/-
  The marks that the laws lay into results, and whether they are still there.
-/
namespace Go.Proofs.Ytfanphhlagjkdaa
open Go.RowKit

def digB (k : Nat) : UInt8 := UInt8.ofNat (48 + k % 10)
/-- the digits of a number, ahead of a text -/
def mtGo (k : Nat) (out : ByteArray) : ByteArray :=
  if 0 < k then mtGo (k / 10) ((⟨#[digB k]⟩ : ByteArray) ++ out) else out
termination_by k
decreasing_by omega
def mt (k : Nat) : ByteArray := if k = 0 then ⟨#[109, 48]⟩ else (⟨#[109]⟩ : ByteArray) ++ mtGo k ⟨#[]⟩

theorem mtGo_pos {j : Nat} (h : 0 < j) (out : ByteArray) : mtGo j out = mtGo (j / 10) ((⟨#[digB j]⟩ : ByteArray) ++ out) := by
  conv => lhs; rw [mtGo]
  rw [if_pos h]
/-- one byte as a text -/
theorem conv_one (W : World) (j c : Nat) : (convert 22 9 (.slice (some ⟨W.heap.size, 0, none⟩) 1 c)).run Try.prog (W.alloc (.cells #[.int .u8 (48 + (j : Int) % 10)] 5)) =
    .ok (.string ⟨#[digB j]⟩) (W.alloc (.cells #[.int .u8 (48 + (j : Int) % 10)] 5)) := by
  have e : ((digB j).toNat : Int) = 48 + (j : Int) % 10 := by
    unfold digB; rw [UInt8.toNat_ofNat']; omega
  refine run_convert_bytes_back (P := Try.prog) _ _ _ 5 ⟨W.heap.size, 0, none⟩ c [digB j] Try.underlying22 Try.underlying5 Try.underlying9 fun i hi => ?_
  obtain rfl : i = 0 := by simpa using hi
  rw [List.getElem_cons_zero, e]
  exact (Blk.new W 5 #[.int .u8 (48 + (j : Int) % 10)]).cell 0

theorem mtGo_size : ∀ (k : Nat) (out : ByteArray), k ≤ 100000000 → (mtGo k out).size ≤ out.size + k := by
  intro k
  induction k using Nat.strongRecOn with
  | ind k ih =>
    intro out hk
    by_cases h : 0 < k
    · rw [mtGo_pos h]
      have := ih (k / 10) (by omega) ((⟨#[digB k]⟩ : ByteArray) ++ out) (by omega)
      rw [ByteArray.size_append] at this
      have e : (⟨#[digB k]⟩ : ByteArray).size = 1 := rfl
      omega
    · rw [mtGo, if_neg h]; omega
theorem mt_size (k : Nat) (h : k ≤ 100000000) : (mt k).size ≤ 200000000 := by
  unfold mt
  split
  · show 2 ≤ _; omega
  · rw [ByteArray.size_append]
    have := mtGo_size k ⟨#[]⟩ h
    have e : (⟨#[109]⟩ : ByteArray).size = 1 := rfl
    have e2 : (⟨#[]⟩ : ByteArray).size = 0 := rfl
    omega
def strEM (s : ByteArray) : List Value := [.string s]
/-- the marks from k on -/
def marks (k : Nat) : Nat → List ByteArray
  | 0 => []
  | n + 1 => mt k :: marks (k + 1) n
theorem marks_len : ∀ (n k : Nat), (marks k n).length = n
  | 0, _ => rfl
  | n + 1, k => by simp [marks, marks_len n]
theorem marks_at : ∀ (n k i : Nat), i < n → (marks k n)[i]? = some (mt (k + i))
  | 0, _, i, h => by omega
  | n + 1, k, 0, _ => by simp [marks]
  | n + 1, k, i + 1, h => by
    rw [marks, List.getElem?_cons_succ, marks_at n (k + 1) i (by omega)]
    congr 2; omega

/-- the cells of a slice of the call's own, marked -/
theorem own_set {w : World} {base : Nat} {e : TypeId} {sz n c g : Nat} {xs : List Value} (h : w.ownsRow base e sz (.slice (some ⟨g, 0, none⟩) n c) n xs) (i : Nat) (u : Value) :
    (w.setCell ⟨g, i, none⟩ u).ownsRow base e sz (.slice (some ⟨g, 0, none⟩) n c) n (xs.set i u) := by
  exact (h.stored i u).1
end Go.Proofs.Ytfanphhlagjkdaa


/-
  The marks that the laws lay into lists of numbers and of rules.
-/
namespace Go.Proofs.Ytfanphhlagjkdaa
open Go.RowKit

/-- two rows of different element types do not share a block -/
theorem own_ne {w : World} {b1 b2 e1 e2 s1 s2 n1 n2 : Nat} {v1 v2 : Value} {xs1 xs2 : List Value} (h1 : w.ownsRow b1 e1 s1 v1 n1 xs1) (h2 : w.ownsRow b2 e2 s2 v2 n2 xs2) (hne : e1 ≠ e2) : v1.ownBlock = none ∨ v1.ownBlock ≠ v2.ownBlock := by
  rcases h1.2 with ⟨rfl, _⟩ | ⟨g1, c1, u1, rfl, _, hh1, _⟩
  · left; rfl
  · right
    rcases h2.2 with ⟨rfl, _⟩ | ⟨g2, c2, u2, rfl, _, hh2, _⟩
    · simp [Value.ownBlock]
    · intro he
      have hg : g1 = g2 := by simpa [Value.ownBlock] using he
      subst hg
      rw [hh1] at hh2
      injection hh2 with hh2
      injection hh2 with _ ht
      exact hne ht
/-- the numbers from k on -/
def marksI (k : Nat) : Nat → List Int
  | 0 => []
  | n + 1 => (k : Int) :: marksI (k + 1) n
theorem marksI_len : ∀ (n k : Nat), (marksI k n).length = n
  | 0, _ => rfl
  | n + 1, k => by simp [marksI, marksI_len n]
theorem marksI_at : ∀ (n k i : Nat), i < n → (marksI k n)[i]? = some ((k + i : Nat) : Int)
  | 0, _, i, h => by omega
  | n + 1, k, 0, _ => by simp [marksI]
  | n + 1, k, i + 1, h => by
    rw [marksI, List.getElem?_cons_succ, marksI_at n (k + 1) i (by omega)]
    congr 2; omega
theorem own_setI {w : World} {base : Nat} {e : TypeId} {sz n c g : Nat} {xs : List Value} (h : w.ownsRow base e sz (.slice (some ⟨g, 0, none⟩) n c) n xs) (i : Nat) (u : Value) :
    (w.setCell ⟨g, i, none⟩ u).ownsRow base e sz (.slice (some ⟨g, 0, none⟩) n c) n (xs.set i u) := (h.stored i u).1
end Go.Proofs.Ytfanphhlagjkdaa


/-
  Lists of numbers copied and compared.
-/
namespace Go.Proofs.Ytfanphhlagjkdaa
open Go.RowKit

theorem fill1 {α : Type} {enc : α → List Value} {cs : Array Value} {n k : Nat} {xs : List α} {x : α} {v : Value} (hs : cs.size = n * 1) (hk : k < n) (hx : xs[k]? = some x) (he : enc x = [v])
    (hc : ∀ i y, i < k → xs[i]? = some y → ∀ j, j < 1 → cs[i * 1 + j]? = (enc y)[j]?) :
    (cs.setIfInBounds k v).size = n * 1 ∧ ∀ i y, i < k + 1 → xs[i]? = some y → ∀ j, j < 1 → (cs.setIfInBounds k v)[i * 1 + j]? = (enc y)[j]? := by
  refine ⟨by simpa using hs, fun i y hi hy j hj => ?_⟩
  obtain rfl : j = 0 := by omega
  by_cases h : i = k
  · subst h
    obtain rfl : x = y := by rw [hx] at hy; exact Option.some.inj hy
    rw [he]
    have : i < cs.size := by omega
    simp [this]
  · rw [← hc i y (by omega) hy 0 hj]
    rw [Array.getElem?_setIfInBounds_ne (by omega)]

def eqInts : List Int → List Int → Bool
  | x :: r, y :: s => decide (x = y) && eqInts r s
  | _, _ => true
theorem eqInts_eq : ∀ (a b : List Int), a.length = b.length → eqInts a b = decide (a = b)
  | [], [], _ => rfl
  | x :: r, y :: s, h => by
    rw [eqInts, eqInts_eq r s (by simpa using h)]
    by_cases h1 : x = y <;> by_cases h2 : r = s <;> simp [h1, h2]
end Go.Proofs.Ytfanphhlagjkdaa


/-
  Tables of numbers that a call has made: compared, marked, held.
-/
namespace Go.Proofs.Ytfanphhlagjkdaa
open Go.RowKit

def encH (m g : Nat) : List Value := [.slice (some ⟨g, 0, none⟩) m m]
/-- a table: its head is a row of the call's own, its rows lie apart -/
structure TabJ (w : World) (base : Nat) (A : Option Addr) (n c m : Nat) (gs : List Nat) (xss : List (List Int)) : Prop where
  o : w.ownsRow base 43 1 (.slice A n c) n (gs.flatMap (encH m))
  lg : gs.length = n
  r : ∀ i g, gs[i]? = some g → w.ownsRow base 2 1 (.slice (some ⟨g, 0, none⟩) m m) m ((xss.getD i []).flatMap intE)
  m : ∀ i, i < n → (xss.getD i []).length = m
  d : ∀ (i j g : Nat), gs[i]? = some g → gs[j]? = some g → i = j
theorem TabJ.next {w w' : World} {base n c m : Nat} {A : Option Addr} {gs : List Nat} {xss : List (List Int)} (h : TabJ w base A n c m gs xss) (hb : Below w.heap.size w w') : TabJ w' base A n c m gs xss :=
  ⟨own_next h.o hb, h.lg, fun i g hg => own_next (h.r i g hg) hb, h.m, h.d⟩
theorem own_low {w1 w w' : World} {b e sz n : Nat} {v : Value} {xs : List Value} {b' : Nat} (h1 : w1.ownsRow b e sz v n xs) (h : w.ownsRow b' e sz v n xs) (hb : Below w1.heap.size w w') : w'.ownsRow b' e sz v n xs := by
  refine ⟨h.1, ?_⟩
  rcases h.2 with hn | ⟨g, cap, cur, rfl, hg, hh, r⟩
  · exact .inl hn
  · exact .inr ⟨g, cap, cur, rfl, hg, (hb.block g (h1.lt g rfl).2).trans hh, r⟩
theorem TabJ.low {w1 w w' : World} {base n c m : Nat} {A : Option Addr} {gs : List Nat} {xss : List (List Int)} (h1 : TabJ w1 base A n c m gs xss) (h : TabJ w base A n c m gs xss) (hb : Below w1.heap.size w w') : TabJ w' base A n c m gs xss :=
  ⟨own_low h1.o h.o hb, h.lg, fun i g hg => own_low (h1.r i g hg) (h.r i g hg) hb, h.m, h.d⟩
/-- what writes a row of another type leaves the table as it is -/
theorem TabJ.kept {w w' : World} {base n c m b2 e2 s2 n2 : Nat} {A : Option Addr} {gs : List Nat} {xss : List (List Int)} {v2 : Value} {xs2 : List Value} (h : TabJ w base A n c m gs xss) (h2 : w.ownsRow b2 e2 s2 v2 n2 xs2) (hg : w.grownBy w' v2.ownBlock) (ht : 43 ≠ e2) (ht2 : 2 ≠ e2) : TabJ w' base A n c m gs xss :=
  ⟨h.o.kept hg (own_ne h.o h2 ht), h.lg, fun i g hg' => (h.r i g hg').kept hg (own_ne (h.r i g hg') h2 ht2), h.m, h.d⟩
theorem TabJ.at_ {w : World} {base n c m : Nat} {A : Option Addr} {gs : List Nat} {xss : List (List Int)} (h : TabJ w base A n c m gs xss) {i : Nat} (hi : i < n) :
    ∃ p g, A = some ⟨p, 0, none⟩ ∧ p < w.heap.size ∧ gs[i]? = some g ∧ w.cell? ⟨p, i, none⟩ = some (.slice (some ⟨g, 0, none⟩) m m) ∧ w.ownsRow base 2 1 (.slice (some ⟨g, 0, none⟩) m m) m ((xss.getD i []).flatMap intE) := by
  obtain ⟨p, cap, hv, hg, hs⟩ := h.o.form (by omega)
  injection hv with hA _ _
  subst hA
  have hlg := h.lg
  have hx : gs[i]? = some (gs[i]'(by omega)) := List.getElem?_eq_getElem _
  refine ⟨p, _, rfl, hs, hx, ?_, h.r i _ hx⟩
  rw [h.o.cellAt i (by omega)]
  have := flat_at (enc := encH m) (sz := 1) gs (fun _ _ => rfl) i _ hx 0 (by omega)
  rw [Nat.mul_one, Nat.add_zero] at this
  rw [this]; rfl
/-- a table with a code -/
def RetTabC (w0 : World) (n m : Nat) (xss : List (List Int)) (code : Int) (e : Ending) (w' : World) : Prop :=
  ∃ A c gs, e = .returned (.tuple #[.slice A n c, .int .i64 code]) ∧ TabJ w' w0.heap.size A n c m gs xss ∧ Below w0.heap.size w0 w'
/-- the marks of a table -/
def marksJ (k m : Nat) (n : Nat) : List (List Int) := (List.range n).map fun j => marksI (k + j * m) m
def marksP (k m n i : Nat) (xss : List (List Int)) : List (List Int) := (List.range n).map fun j => if j < i then marksI (k + j * m) m else xss.getD j []
theorem marksJ_at {k m n i : Nat} (h : i < n) : (marksJ k m n).getD i [] = marksI (k + i * m) m := by
  unfold marksJ; rw [List.getD_eq_getElem?_getD, List.getElem?_map, List.getElem?_range h]; rfl
theorem marksP_at {k m n i j : Nat} {xss : List (List Int)} (h : j < n) : (marksP k m n i xss).getD j [] = if j < i then marksI (k + j * m) m else xss.getD j [] := by
  unfold marksP; rw [List.getD_eq_getElem?_getD, List.getElem?_map, List.getElem?_range h]; rfl
end Go.Proofs.Ytfanphhlagjkdaa


/-
  PairCounts in the program and in the reference.
-/
namespace Go.Proofs.Ytfanphhlagjkdaa
open Go.RowKit

def pairL (rs : List Fac) : List (List Int) := if (gOk rs).isSome = false then [] else (pcAll rs).map fun q => [q.a, q.b, q.c, q.d]
def pairC (rs : List Fac) : Int := if (gOk rs).isSome = false then 1 else 0
theorem pairL1 {rs : List Fac} (h : (gOk rs).isSome = false) : pairL rs = [] ∧ pairC rs = 1 := by unfold pairL pairC; rw [if_pos h, if_pos h]; exact ⟨rfl, rfl⟩
theorem pairL2 {rs : List Fac} (h : (gOk rs).isSome = true) : pairL rs = ((pcAll rs).map fun q => [q.a, q.b, q.c, q.d]) ∧ pairC rs = 0 := by
  unfold pairL pairC; rw [if_neg (by rw [h]; decide), if_neg (by rw [h]; decide)]; exact ⟨rfl, rfl⟩
theorem pairL_len (rs : List Fac) : (pairL rs).length ≤ 4 := by
  unfold pairL
  split
  · simp
  · rw [List.length_map, show (pcAll rs).length = 4 from pcT_len _ _]; omega
theorem tabJ_nil (w : World) (base m : Nat) (A : Option Addr) (c : Nat) (h : w.ownsRow base 43 1 (.slice A 0 c) 0 []) : TabJ w base A 0 c m [] [] :=
  ⟨by simpa using h, rfl, fun i g hg => by simp at hg, fun i hi => absurd hi (by omega), fun i j g hi => by simp at hi⟩
theorem tabJ_of {w : World} {base c : Nat} {A : Option Addr} {gs : List Nat} {qs : List Q4} (hq : qs.length = 4) (h : w.ownsRow base 43 1 (.slice A 4 c) 4 (gs.flatMap encG)) (hp : PTab w base gs qs) : TabJ w base A 4 c 4 gs (qs.map fun q => [q.a, q.b, q.c, q.d]) := by
  have e : ∀ i, i < 4 → (qs.map fun q => [q.a, q.b, q.c, q.d]).getD i [] = [(qs.getD i Q4.nil).a, (qs.getD i Q4.nil).b, (qs.getD i Q4.nil).c, (qs.getD i Q4.nil).d] := fun i hi => by
    have hx : qs[i]? = some (qs[i]'(by omega)) := List.getElem?_eq_getElem _
    rw [List.getD_eq_getElem?_getD, List.getElem?_map, List.getD_eq_getElem?_getD, hx]; rfl
  have hl : gs.length = 4 := hp.1.1.trans hq
  refine ⟨h, hl, fun i g hg => ?_, fun i hi => by rw [e i hi]; rfl, hp.2⟩
  have hi : i < 4 := by rw [← hl]; exact (List.getElem?_eq_some_iff.1 hg).1
  rw [e i hi]
  exact arrI_own (us := [(qs.getD i Q4.nil).a, (qs.getD i Q4.nil).b, (qs.getD i Q4.nil).c, (qs.getD i Q4.nil).d]) (hp.1.2 i g hg).2 (hp.1.2 i g hg).1 (by unfold maxLen; simp)
set_option maxHeartbeats 2000000 in
set_option maxRecDepth 100000 in
theorem implPairC_any (A : Option Addr) (n c : Nat) (rs : List Fac) (w : World) (hn : n ≤ 1048576) (hr : Rd w w.heap.size A n 3 Fac.cells rs) (hok : ∀ f ∈ rs, f.l.size ≤ maxLen) :
    Calls Try.prog 15 #[.agg #[.slice A n c]] w (RetTabC w (pairL rs).length 4 (pairL rs) (pairC rs)) := by
  have hl := Lib.hid hr.len
  have HR := Lib.hid hr; clear hr
  have HO := Lib.hid hok; clear hok
  rcases hg : (gOk rs).isSome with _ | _
  · have e := Lib.hid (pairL1 hg)
    have Hg := Lib.hid hg; clear hg
    go_enter Try.func15, Try.ntmps15
    go_wp2_with fail
    refine namedC fun w0 H0 => ?_
    have hb0 : Below w.heap.size w w0 := by rw [H0.out]; (repeat first | exact Below.refl _ _ | assumption | refine Below.drew ?_ | refine Below.alloc ?_ (by first | exact Nat.le_refl _ | (simp; done) | omega | (simp; omega)) _ | refine Below.setCell ?_ (by first | exact Nat.le_refl _ | (simp; done) | omega | (simp; omega)) _)
    clear H0
    refine (validG_any A n c rs w0 (by omega) (HR.out.next hb0) HO.out false Hg.out).mono ?_
    rintro e1 w1 ⟨rfl, hb1⟩
    go_wp2_with fail
    go_ret2
    rw [e.out.1, e.out.2]
    exact ⟨none, 0, [], rfl, tabJ_nil _ _ _ _ _ ⟨rfl, .inl ⟨rfl, rfl⟩⟩, hb0.trans (hb1.mono hb0.size)⟩
  have HG := Lib.hid hg
  have e := Lib.hid (pairL2 hg)
  obtain ⟨ls, hls⟩ := Option.isSome_iff_exists.1 hg
  have HL := Lib.hid (gOk_lens hls).1
  have Hll := Lib.hid (gOk_lens hls).2.2
  have hn4 : n ≤ 400 := by have := (gOk_lens hls).2.1; have := hl.out; omega
  clear hg hls
  go_enter Try.func15, Try.ntmps15
  go_wp2_with fail
  refine namedC fun w0 H0 => ?_
  have hb0 : Below w.heap.size w w0 := by rw [H0.out]; (repeat first | exact Below.refl _ _ | assumption | refine Below.drew ?_ | refine Below.alloc ?_ (by first | exact Nat.le_refl _ | (simp; done) | omega | (simp; omega)) _ | refine Below.setCell ?_ (by first | exact Nat.le_refl _ | (simp; done) | omega | (simp; omega)) _)
  have G0 := Lib.hid (show Blk w0 w.heap.size 26 #[.slice A n c] by rw [H0.out]; exact Blk.new _ _ _)
  clear H0
  refine (validG_any A n c rs w0 (by omega) (HR.out.next hb0) HO.out true HG.out).mono ?_
  rintro e1 w1 ⟨rfl, hb1⟩
  have b1 := Lib.hid (hb0.trans (hb1.mono hb0.size))
  have G1 := Lib.hid (G0.out.next hb1)
  have cg := G1.out.cell 0
  have lg := G1.out.lt
  clear hb0 hb1 G0
  go_wp2_with fail
  refine (implPairs_any A n c rs ls w1 (by omega) ((HR.out.below b1.out).more b1.out.size) HL.out Hll.out).mono ?_
  rintro e3 w2 ⟨A3, c3, gs, rfl, own3, row3, hb2⟩
  rw [show (pcAll rs).length = 4 from pcT_len _ _] at own3 ⊢
  have T := Lib.hid (tabJ_of (pcT_len _ _) (own3.mono b1.out.size) ⟨⟨row3.1.1, fun i g h => ⟨Nat.le_trans b1.out.size (row3.1.2 i g h).1, (row3.1.2 i g h).2⟩⟩, row3.2⟩)
  have b2 := Lib.hid (b1.out.trans (hb2.mono b1.out.size))
  clear own3 row3 hb2 cg lg
  go_wp2_with fail
  go_ret2
  rw [e.out.1, e.out.2, List.length_map, show (pcAll rs).length = 4 from pcT_len _ _]
  exact ⟨A3, c3, gs, rfl, T.out, b2.out⟩
end Go.Proofs.Ytfanphhlagjkdaa


/-
  The walk made to stand ahead of an operation, so that a law can be laid there.
-/
namespace Go.Proofs.Ytfanphhlagjkdaa
open Go.RowKit

/-! ### the walk made to stand ahead of an operation -/
def Stop (p : Prop) : Prop := p
theorem stopW {P : Program} {ops : Array Oper} {Q : Exit → Act → World → Prop} {a : Act} {W : World} {l : List Oper} (h : Stop (wpList P ops Q l a W)) : wpList P ops Q l a W := h
theorem stop_named {P : Program} {ops : Array Oper} {Q : Exit → Act → World → Prop} {a : Act} {W : World} {l : List Oper} (h : ∀ w, Hid (w = W) → Stop (wpList P ops Q l a w)) : Stop (wpList P ops Q l a W) := h W (Lib.hid rfl)
end Go.Proofs.Ytfanphhlagjkdaa


/-
  The longest runs of the letters in the program: a letter.
-/
namespace Go.Proofs.Ytfanphhlagjkdaa
open Go.RowKit

def R4.arr (y : R4) : Array Value := #[.int .i64 y.f0, .int .i64 y.l0, .int .i64 y.m0, .int .i64 y.n0, .int .i64 y.f1, .int .i64 y.l1, .int .i64 y.m1, .int .i64 y.n1, .int .i64 y.f2, .int .i64 y.l2, .int .i64 y.m2, .int .i64 y.n2, .int .i64 y.f3, .int .i64 y.l3, .int .i64 y.m3, .int .i64 y.n3]
theorem R4.arr_size (y : R4) : y.arr.size = 16 := rfl
theorem R4.arr_one (y : R4) : y.arr.all (·.oneCell') = true := by simp [R4.arr, Value.oneCell']
theorem R4.arr_at (y : R4) {k : Nat} (h : k < 4) : y.arr[k * 4]? = some (.int .i64 (y.at_ k).f) ∧ y.arr[k * 4 + 1]? = some (.int .i64 (y.at_ k).l) ∧ y.arr[k * 4 + 2]? = some (.int .i64 (y.at_ k).m) ∧ y.arr[k * 4 + 3]? = some (.int .i64 (y.at_ k).n) := by
  match k, h with
  | 0, _ => exact ⟨rfl, rfl, rfl, rfl⟩
  | 1, _ => exact ⟨rfl, rfl, rfl, rfl⟩
  | 2, _ => exact ⟨rfl, rfl, rfl, rfl⟩
  | 3, _ => exact ⟨rfl, rfl, rfl, rfl⟩
/-- four runs of which those from k on are of no letters -/
def r4P (t : Nat → Rc) (z : Rc) (k : Nat) : R4 := .mk4 (if 0 < k then t 0 else z) (if 1 < k then t 1 else z) (if 2 < k then t 2 else z) (if 3 < k then t 3 else z)
theorem r4P_zero (t : Nat → Rc) (z : Rc) : r4P t z 0 = .mk4 z z z z := rfl
theorem r4P_all (t : Nat → Rc) (z : Rc) : r4P t z 4 = .mk4 (t 0) (t 1) (t 2) (t 3) := rfl
def Rc.cells (x : Rc) : Array Value := #[.int .i64 x.f, .int .i64 x.l, .int .i64 x.m, .int .i64 x.n]
/-- one run put in its place -/
theorem r4_put (y : R4) {k : Nat} (h : k < 4) (x : Rc) : ((((y.arr.setIfInBounds (k * 4) (.int .i64 x.f)).setIfInBounds (k * 4 + 1) (.int .i64 x.l)).setIfInBounds (k * 4 + 2) (.int .i64 x.m)).setIfInBounds (k * 4 + 3) (.int .i64 x.n)) = (R4.mk4 (if k = 0 then x else y.at_ 0) (if k = 1 then x else y.at_ 1) (if k = 2 then x else y.at_ 2) (if k = 3 then x else y.at_ 3)).arr := by
  match k, h with
  | 0, _ => rfl
  | 1, _ => rfl
  | 2, _ => rfl
  | 3, _ => rfl
theorem r4P_put (t : Nat → Rc) (z : Rc) {k : Nat} (h : k < 4) : R4.mk4 (if k = 0 then t k else (r4P t z k).at_ 0) (if k = 1 then t k else (r4P t z k).at_ 1) (if k = 2 then t k else (r4P t z k).at_ 2) (if k = 3 then t k else (r4P t z k).at_ 3) = r4P t z (k + 1) := by
  match k, h with
  | 0, _ => rfl
  | 1, _ => rfl
  | 2, _ => rfl
  | 3, _ => rfl
theorem lrF_put {l : Nat} (hl : l < 4) : lrF l = R4.mk4 (if l = 0 then ⟨1, 1, 1, 1⟩ else (r4P (fun _ => ⟨0, 0, 0, 1⟩) ⟨0, 0, 0, 0⟩ 4).at_ 0) (if l = 1 then ⟨1, 1, 1, 1⟩ else (r4P (fun _ => ⟨0, 0, 0, 1⟩) ⟨0, 0, 0, 0⟩ 4).at_ 1) (if l = 2 then ⟨1, 1, 1, 1⟩ else (r4P (fun _ => ⟨0, 0, 0, 1⟩) ⟨0, 0, 0, 0⟩ 4).at_ 2) (if l = 3 then ⟨1, 1, 1, 1⟩ else (r4P (fun _ => ⟨0, 0, 0, 1⟩) ⟨0, 0, 0, 0⟩ 4).at_ 3) := by
  match l, hl with
  | 0, _ => rfl
  | 1, _ => rfl
  | 2, _ => rfl
  | 3, _ => rfl
theorem r4P_len (t : Nat → Rc) (z : Rc) {k : Nat} (h : k < 4) (n : Int) (ht : ∀ k, t k = ⟨z.f, z.l, z.m, n⟩) : (r4P t z k).arr.setIfInBounds (k * 4 + 3) (.int .i64 n) = (r4P t z (k + 1)).arr := by
  match k, h with
  | 0, _ => simp [r4P, ht]; rfl
  | 1, _ => simp [r4P, ht]; rfl
  | 2, _ => simp [r4P, ht]; rfl
  | 3, _ => simp [r4P, ht]; rfl
theorem Blk.row {w : World} {g : Nat} {t : TypeId} {cs cs' : Array Value} (h : Blk w g t cs) : Blk (w.setRow g cs') g t cs' := setRow_heap w g cs cs' t (0, 0) h
theorem results_cell {fn : Func} {k : Tmp} {t : TypeId} (h : fn.results = #[.cell k t]) (tmps : Array Value) (P : Program) (w : World) {ad : Addr} {v : Value} (hq : tmps.getD k undef = .pointer (some ad)) (hl : (loadVar t ad).run P w = .ok v w) :
    (results fn tmps).run P w = .ok v w := by
  simp only [Array.getD_eq_getD_getElem?] at hq
  simp [results, h, hq, hl, asAddr]
theorem stopL {P : Program} {ops : Array Oper} {Q : Exit → Act → World → Prop} {a : Act} {w : World} {d : Option Tmp} {x : Operand} {t : TypeId} {pos : String} {af : Array Edge} {g : Option (Tmp × Bool)} {rest : List Oper} (h : Stop (wpList P ops Q (⟨d, .load 80 x, t, pos, af, g⟩ :: rest) a w)) : wpList P ops Q (⟨d, .load 80 x, t, pos, af, g⟩ :: rest) a w := h
theorem info_r4 : (Try.prog.info? 80).map (·.size) = some 16 := by kernel_rfl
theorem und_r4 : (Try.prog.underlying 80) = some (.array 4 79) := by kernel_rfl
set_option maxHeartbeats 2000000 in
set_option maxRecDepth 100000 in
theorem lr1_any (l : Nat) (w : World) (hl : l < 4) : Calls Try.prog 42 #[.int .i64 (l : Int)] w (Ret (.agg (lrF l).arr) w) := by
  go_enter Try.func42, Try.ntmps42
  go_wp2_with fail
  refine named fun w3 H3 => ?_
  have hb3 : Below w.heap.size w w3 := by rw [H3.out]; (repeat first | exact Below.refl _ _ | assumption | refine Below.drew ?_ | refine Below.alloc ?_ (by first | exact Nat.le_refl _ | (simp; done) | omega | (simp; omega)) _ | refine Below.setCell ?_ (by first | exact Nat.le_refl _ | (simp; done) | omega | (simp; omega)) _)
  have BR := Lib.hid (show Blk w3 w.heap.size 80 (R4.mk4 ⟨0, 0, 0, 0⟩ ⟨0, 0, 0, 0⟩ ⟨0, 0, 0, 0⟩ ⟨0, 0, 0, 0⟩).arr by rw [H3.out]; exact (Blk.new w _ _).alloc _)
  have BX := Lib.hid (show Blk w3 (w.heap.size + 1) 80 (r4P (fun _ => ⟨0, 0, 0, 1⟩) ⟨0, 0, 0, 0⟩ 0).arr by
    rw [H3.out]
    have h := Blk.new (w.alloc (.cells (R4.mk4 ⟨0, 0, 0, 0⟩ ⟨0, 0, 0, 0⟩ ⟨0, 0, 0, 0⟩ ⟨0, 0, 0, 0⟩).arr 80)) 80 (R4.mk4 ⟨0, 0, 0, 0⟩ ⟨0, 0, 0, 0⟩ ⟨0, 0, 0, 0⟩ ⟨0, 0, 0, 0⟩).arr
    rw [show (w.alloc (.cells (R4.mk4 ⟨0, 0, 0, 0⟩ ⟨0, 0, 0, 0⟩ ⟨0, 0, 0, 0⟩ ⟨0, 0, 0, 0⟩).arr 80)).heap.size = w.heap.size + 1 by simp] at h
    exact h)
  clear H3
  go_loopw [6] (fun i_ w' => ∃ (j : Nat), i_ = .int .i64 j ∧ j ≤ 4 ∧ Below w.heap.size w w' ∧ Hid (Blk w' w.heap.size 80 (R4.mk4 ⟨0, 0, 0, 0⟩ ⟨0, 0, 0, 0⟩ ⟨0, 0, 0, 0⟩ ⟨0, 0, 0, 0⟩).arr) ∧
      Hid (Blk w' (w.heap.size + 1) 80 (r4P (fun _ => ⟨0, 0, 0, 1⟩) ⟨0, 0, 0, 0⟩ j).arr)) (fun i_ _ => 4 - (intOf i_).toNat)
  case atStart => exact ⟨0, rfl, by omega, hb3, BR, BX⟩
  case round =>
    obtain ⟨j, rfl, hj, hb, hR, hB⟩ := hrel
    by_cases hlt : j < 4
    · have B4 := Lib.hid hB.out
      have g0 := B4.out.frozen
      have l1 := B4.out.lt
      have a3 := (B4.out.cell (j * 4 + 3)).trans (R4.arr_at _ hlt).2.2.2
      have HS := Lib.hid (r4P_len (fun _ => ⟨0, 0, 0, 1⟩) ⟨0, 0, 0, 0⟩ hlt 1 (fun _ => rfl))
      clear hB
      go_wp2_with fail
      go_roundw
      case rel =>
        refine ⟨j + 1, by go_num, by omega, hb.setCell (by simp; try omega) _, Lib.hid (hR.out.far (by simp) _), Lib.hid ?_⟩
        rw [← HS.out]
        exact B4.out.set_ _ _
      case measure => simp [intOf]; omega
    · obtain rfl : j = 4 := by omega
      have R0 := hR.out.frozen
      have l0 := hR.out.lt
      have g0 := hB.out.frozen
      have l1 := hB.out.lt
      obtain ⟨c0, c1, c2, c3⟩ := R4.arr_at (r4P (fun _ => ⟨0, 0, 0, 1⟩) ⟨0, 0, 0, 0⟩ 4) hl
      have a0 := (hB.out.cell (l * 4)).trans c0
      have a1 := (hB.out.cell (l * 4 + 1)).trans c1
      have a2 := (hB.out.cell (l * 4 + 2)).trans c2
      have a3 := (hB.out.cell (l * 4 + 3)).trans c3
      clear c0 c1 c2 c3
      have HB := Lib.hid hB.out
      have HR := Lib.hid hR.out
      clear hB hR
      have HP := Lib.hid (show Blk ((((wr.setCell ⟨w.heap.size + 1, l * 4, none⟩ (.int .i64 1)).setCell ⟨w.heap.size + 1, l * 4 + 1, none⟩ (.int .i64 1)).setCell ⟨w.heap.size + 1, l * 4 + 2, none⟩ (.int .i64 1)).setCell ⟨w.heap.size + 1, l * 4 + 3, none⟩ (.int .i64 1)) (w.heap.size + 1) 80 (lrF l).arr by
        have h := (((HB.out.set_ (l * 4) (.int .i64 1)).set_ (l * 4 + 1) (.int .i64 1)).set_ (l * 4 + 2) (.int .i64 1)).set_ (l * 4 + 3) (.int .i64 1)
        rw [r4_put _ hl ⟨1, 1, 1, 1⟩] at h
        rw [lrF_put hl]
        exact h)
      have HQ := Lib.hid ((((HR.out.far (p := ⟨w.heap.size + 1, l * 4, none⟩) (by simp) (.int .i64 1)).far (p := ⟨w.heap.size + 1, l * 4 + 1, none⟩) (by simp) (.int .i64 1)).far (p := ⟨w.heap.size + 1, l * 4 + 2, none⟩) (by simp) (.int .i64 1)).far (p := ⟨w.heap.size + 1, l * 4 + 3, none⟩) (by simp) (.int .i64 1))
      have hb' := Lib.hid ((((hb.setCell (p := ⟨w.heap.size + 1, l * 4, none⟩) (by simp) (.int .i64 1)).setCell (p := ⟨w.heap.size + 1, l * 4 + 1, none⟩) (by simp) (.int .i64 1)).setCell (p := ⟨w.heap.size + 1, l * 4 + 2, none⟩) (by simp) (.int .i64 1)).setCell (p := ⟨w.heap.size + 1, l * 4 + 3, none⟩) (by simp) (.int .i64 1))
      go_wp2_with (with_reducible refine stopL ?_)
      unfold Stop
      refine wpList_load_row rfl 80 _ rfl (w.heap.size + 1) rfl 80 (lrF l).arr (0, 0) _ HP.out und_r4 rfl info_r4 ?_
      refine wpList_store_row rfl 80 _ _ rfl w.heap.size (lrF l).arr rfl rfl 80 _ HQ.out info_r4 rfl (R4.arr_one _) ?_
      have HZ := Lib.hid (HQ.out.row (cs' := (lrF l).arr))
      have hbz := Lib.hid (below_setRow hb'.out (Nat.le_refl _) (lrF l).arr)
      generalize ((((wr.setCell ⟨w.heap.size + 1, l * 4, none⟩ (.int .i64 1)).setCell ⟨w.heap.size + 1, l * 4 + 1, none⟩ (.int .i64 1)).setCell ⟨w.heap.size + 1, l * 4 + 2, none⟩ (.int .i64 1)).setCell ⟨w.heap.size + 1, l * 4 + 3, none⟩ (.int .i64 1)).setRow w.heap.size (lrF l).arr = w9 at *
      go_wp2_with fail
      exact bodyPost_ret (v := .agg (lrF l).arr) (results_cell Try.results42 _ _ _ (ad := ⟨w.heap.size, 0, none⟩) (by rfl) (run_loadVar_row (P := Try.prog) w9 w.heap.size 80 80 _ (0, 0) _ HZ.out und_r4 rfl info_r4)) rfl ⟨rfl, hbz.out⟩
end Go.Proofs.Ytfanphhlagjkdaa


/-
  The longest runs of the letters in the program: two words in a row.
-/
namespace Go.Proofs.Ytfanphhlagjkdaa
open Go.RowKit

theorem put4_at {cs : Array Value} {i : Nat} {a b c d : Value} (h : i + 3 < cs.size) : ((((cs.setIfInBounds i a).setIfInBounds (i + 1) b).setIfInBounds (i + 2) c).setIfInBounds (i + 3) d)[i]? = some a ∧ ((((cs.setIfInBounds i a).setIfInBounds (i + 1) b).setIfInBounds (i + 2) c).setIfInBounds (i + 3) d)[i + 1]? = some b := by
  refine ⟨?_, ?_⟩
  · rw [Array.getElem?_setIfInBounds_ne (by omega), Array.getElem?_setIfInBounds_ne (by omega), Array.getElem?_setIfInBounds_ne (by omega), Array.getElem?_setIfInBounds_self_of_lt (by omega)]
  · rw [Array.getElem?_setIfInBounds_ne (by omega), Array.getElem?_setIfInBounds_ne (by omega), Array.getElem?_setIfInBounds_self_of_lt (by simp; omega)]
section
variable {w w8 : World} {g g' : Nat} {t t1 t2 : TypeId} {cs c1 c2 : Array Value} {i : Nat} {a b c d : Value}
/-- four cells put, and two new blocks -/
theorem Blk.put4 (h : Blk w g t cs) (e : w8 = (((((w.setCell ⟨g, i, none⟩ a).setCell ⟨g, i + 1, none⟩ b).setCell ⟨g, i + 2, none⟩ c).setCell ⟨g, i + 3, none⟩ d).alloc (.cells c1 t1)).alloc (.cells c2 t2)) : Blk w8 g t ((((cs.setIfInBounds i a).setIfInBounds (i + 1) b).setIfInBounds (i + 2) c).setIfInBounds (i + 3) d) := by
  rw [e]; exact (((((h.set_ i a).set_ (i + 1) b).set_ (i + 2) c).set_ (i + 3) d).alloc _).alloc _
theorem Blk.far4 (h : Blk w g' t cs) (hne : g' ≠ g) (e : w8 = (((((w.setCell ⟨g, i, none⟩ a).setCell ⟨g, i + 1, none⟩ b).setCell ⟨g, i + 2, none⟩ c).setCell ⟨g, i + 3, none⟩ d).alloc (.cells c1 t1)).alloc (.cells c2 t2)) : Blk w8 g' t cs := by
  rw [e]; exact (((((h.far (p := ⟨g, i, none⟩) hne a).far (p := ⟨g, i + 1, none⟩) hne b).far (p := ⟨g, i + 2, none⟩) hne c).far (p := ⟨g, i + 3, none⟩) hne d).alloc _).alloc _
theorem Blk.new4a (e : w8 = (((((w.setCell ⟨g, i, none⟩ a).setCell ⟨g, i + 1, none⟩ b).setCell ⟨g, i + 2, none⟩ c).setCell ⟨g, i + 3, none⟩ d).alloc (.cells c1 t1)).alloc (.cells c2 t2)) : Blk w8 w.heap.size t1 c1 := by
  have h := Blk.new ((((w.setCell ⟨g, i, none⟩ a).setCell ⟨g, i + 1, none⟩ b).setCell ⟨g, i + 2, none⟩ c).setCell ⟨g, i + 3, none⟩ d) t1 c1
  rw [show ((((w.setCell ⟨g, i, none⟩ a).setCell ⟨g, i + 1, none⟩ b).setCell ⟨g, i + 2, none⟩ c).setCell ⟨g, i + 3, none⟩ d).heap.size = w.heap.size by simp] at h
  rw [e]; exact h.alloc _
theorem Blk.new4b (e : w8 = (((((w.setCell ⟨g, i, none⟩ a).setCell ⟨g, i + 1, none⟩ b).setCell ⟨g, i + 2, none⟩ c).setCell ⟨g, i + 3, none⟩ d).alloc (.cells c1 t1)).alloc (.cells c2 t2)) : Blk w8 (w.heap.size + 1) t2 c2 := by
  have h := Blk.new (((((w.setCell ⟨g, i, none⟩ a).setCell ⟨g, i + 1, none⟩ b).setCell ⟨g, i + 2, none⟩ c).setCell ⟨g, i + 3, none⟩ d).alloc (.cells c1 t1)) t2 c2
  rw [show (((((w.setCell ⟨g, i, none⟩ a).setCell ⟨g, i + 1, none⟩ b).setCell ⟨g, i + 2, none⟩ c).setCell ⟨g, i + 3, none⟩ d).alloc (.cells c1 t1)).heap.size = w.heap.size + 1 by simp] at h
  rw [e]; exact h
theorem below4 {B : Nat} {w0 : World} (h : Below B w0 w) (hw : B ≤ w.heap.size) (hg : B ≤ g) (e : w8 = (((((w.setCell ⟨g, i, none⟩ a).setCell ⟨g, i + 1, none⟩ b).setCell ⟨g, i + 2, none⟩ c).setCell ⟨g, i + 3, none⟩ d).alloc (.cells c1 t1)).alloc (.cells c2 t2)) : Below B w0 w8 := by
  rw [e]; exact (((((h.setCell (p := ⟨g, i, none⟩) hg a).setCell (p := ⟨g, i + 1, none⟩) hg b).setCell (p := ⟨g, i + 2, none⟩) hg c).setCell (p := ⟨g, i + 3, none⟩) hg d).alloc (by simpa using hw) _).alloc (by simp; omega) _
end
theorem Blk.put1 {w w9 : World} {g i : Nat} {t : TypeId} {cs : Array Value} {v : Value} (h : Blk w g t cs) (e : w9 = (w.setCell ⟨g, i, none⟩ v).drew) : Blk w9 g t (cs.setIfInBounds i v) := by rw [e]; exact (h.set_ i v).drew
theorem Blk.far1 {w w9 : World} {g g' i : Nat} {t : TypeId} {cs : Array Value} {v : Value} (h : Blk w g' t cs) (hne : g' ≠ g) (e : w9 = (w.setCell ⟨g, i, none⟩ v).drew) : Blk w9 g' t cs := by rw [e]; exact (h.far (p := ⟨g, i, none⟩) hne v).drew
theorem below1 {B : Nat} {w0 w w9 : World} {g i : Nat} {v : Value} (h : Below B w0 w) (hg : B ≤ g) (e : w9 = (w.setCell ⟨g, i, none⟩ v).drew) : Below B w0 w9 := by rw [e]; exact (h.setCell (p := ⟨g, i, none⟩) hg v).drew
theorem Blk.four' {w : World} {g : Nat} {t : TypeId} {x y z u : Value} (h : Blk w g t #[x, y, z, u]) : w.cell? ⟨g, 0, none⟩ = some x ∧ w.cell? ⟨g, 1, none⟩ = some y ∧ w.cell? ⟨g, 2, none⟩ = some z ∧ w.cell? ⟨g, 3, none⟩ = some u := ⟨h.cell 0, h.cell 1, h.cell 2, h.cell 3⟩
theorem ixR0 (y : R4) : (∀ w : World, (Instr.index 80 (.agg y.arr) (.int .i64 0)).run Try.prog w = .ok (.agg #[.int .i64 y.f0, .int .i64 y.l0, .int .i64 y.m0, .int .i64 y.n0]) w) ∧
    (∀ w : World, (Instr.index 80 (.agg y.arr) (.int .i64 1)).run Try.prog w = .ok (.agg #[.int .i64 y.f1, .int .i64 y.l1, .int .i64 y.m1, .int .i64 y.n1]) w) ∧
    (∀ w : World, (Instr.index 80 (.agg y.arr) (.int .i64 2)).run Try.prog w = .ok (.agg #[.int .i64 y.f2, .int .i64 y.l2, .int .i64 y.m2, .int .i64 y.n2]) w) ∧
    (∀ w : World, (Instr.index 80 (.agg y.arr) (.int .i64 3)).run Try.prog w = .ok (.agg #[.int .i64 y.f3, .int .i64 y.l3, .int .i64 y.m3, .int .i64 y.n3]) w) :=
  ⟨fun _ => by kernel_rfl, fun _ => by kernel_rfl, fun _ => by kernel_rfl, fun _ => by kernel_rfl⟩
theorem ixLr (y : R4) {k : Nat} (h : k < 4) (w : World) : (Instr.index 80 (.agg y.arr) (.int .i64 (k : Int))).run Try.prog w = .ok (.agg #[.int .i64 (y.at_ k).f, .int .i64 (y.at_ k).l, .int .i64 (y.at_ k).m, .int .i64 (y.at_ k).n]) w := by
  obtain ⟨h0, h1, h2, h3⟩ := ixR0 y
  match k, h with
  | 0, _ => exact h0 w
  | 1, _ => exact h1 w
  | 2, _ => exact h2 w
  | 3, _ => exact h3 w
theorem lrJ_at (xf xl xm xn yf yl ym yn : Int) : lrJ ⟨xf, xl, xm, xn⟩ ⟨yf, yl, ym, yn⟩ = ⟨if xf = xn then xf + yf else xf, if yl = yn then yl + xl else yl, max (max xm ym) (xl + yf), xn + yn⟩ := rfl
theorem set4_f {α : Type} (c : Array α) (i : Nat) (a b m n a' : α) : ((((c.setIfInBounds i a).setIfInBounds (i + 1) b).setIfInBounds (i + 2) m).setIfInBounds (i + 3) n).setIfInBounds i a' = (((c.setIfInBounds i a').setIfInBounds (i + 1) b).setIfInBounds (i + 2) m).setIfInBounds (i + 3) n := by
  rw [Array.setIfInBounds_comm (xs := ((c.setIfInBounds i a).setIfInBounds (i + 1) b).setIfInBounds (i + 2) m) n a' (by omega : i + 3 ≠ i),
    Array.setIfInBounds_comm (xs := (c.setIfInBounds i a).setIfInBounds (i + 1) b) m a' (by omega : i + 2 ≠ i),
    Array.setIfInBounds_comm (xs := c.setIfInBounds i a) b a' (by omega : i + 1 ≠ i), Array.setIfInBounds_setIfInBounds]
theorem set4_l {α : Type} (c : Array α) (i : Nat) (a b m n b' : α) : ((((c.setIfInBounds i a).setIfInBounds (i + 1) b).setIfInBounds (i + 2) m).setIfInBounds (i + 3) n).setIfInBounds (i + 1) b' = (((c.setIfInBounds i a).setIfInBounds (i + 1) b').setIfInBounds (i + 2) m).setIfInBounds (i + 3) n := by
  rw [Array.setIfInBounds_comm (xs := ((c.setIfInBounds i a).setIfInBounds (i + 1) b).setIfInBounds (i + 2) m) n b' (by omega : i + 3 ≠ i + 1),
    Array.setIfInBounds_comm (xs := (c.setIfInBounds i a).setIfInBounds (i + 1) b) m b' (by omega : i + 2 ≠ i + 1), Array.setIfInBounds_setIfInBounds]
set_option maxHeartbeats 4000000 in
set_option maxRecDepth 100000 in
theorem lr2_any (x y : R4) (r : Fac) (a b : Int) (w : World) (ha : 1 ≤ a) (ha2 : a ≤ 1000000000000000) (hb0 : 1 ≤ b) (hb2 : b ≤ 1000000000000000) (hx : ∀ k, k < 4 → RcB a (x.at_ k)) (hy : ∀ k, k < 4 → RcB b (y.at_ k)) :
    Calls Try.prog 43 #[.agg x.arr, .agg y.arr, r.val] w (Ret (.agg (lrG x y r).arr) w) := by
  have HX := Lib.hid hx; clear hx
  have HY := Lib.hid hy; clear hy
  unfold Fac.val
  go_enter Try.func43, Try.ntmps43
  go_wp2_with (with_reducible refine stopL ?_)
  have HI : ∀ W : World, Hid (W = (((((w.alloc (.cells x.arr 80)).alloc (.cells y.arr 80)).alloc (.cells #[.string r.l, .int .i64 r.a, .int .i64 r.b] 65)).alloc (.cells (R4.mk4 ⟨0, 0, 0, 0⟩ ⟨0, 0, 0, 0⟩ ⟨0, 0, 0, 0⟩ ⟨0, 0, 0, 0⟩).arr 80)).alloc (.cells (R4.mk4 ⟨0, 0, 0, 0⟩ ⟨0, 0, 0, 0⟩ ⟨0, 0, 0, 0⟩ ⟨0, 0, 0, 0⟩).arr 80))) → Below w.heap.size w W ∧
      Hid (Blk W w.heap.size 80 x.arr) ∧ Hid (Blk W (w.heap.size + 1) 80 y.arr) ∧ Hid (Blk W (w.heap.size + 1 + 1 + 1) 80 (R4.mk4 ⟨0, 0, 0, 0⟩ ⟨0, 0, 0, 0⟩ ⟨0, 0, 0, 0⟩ ⟨0, 0, 0, 0⟩).arr) ∧ Hid (Blk W (w.heap.size + 1 + 1 + 1 + 1) 80 (R4.mk4 ⟨0, 0, 0, 0⟩ ⟨0, 0, 0, 0⟩ ⟨0, 0, 0, 0⟩ ⟨0, 0, 0, 0⟩).arr) := fun W hW => by
    rw [hW.out]
    have s1 : (w.alloc (.cells x.arr 80)).heap.size = w.heap.size + 1 := by simp
    have s3 : (((w.alloc (.cells x.arr 80)).alloc (.cells y.arr 80)).alloc (.cells #[.string r.l, .int .i64 r.a, .int .i64 r.b] 65)).heap.size = w.heap.size + 1 + 1 + 1 := by simp
    have s4 : ((((w.alloc (.cells x.arr 80)).alloc (.cells y.arr 80)).alloc (.cells #[.string r.l, .int .i64 r.a, .int .i64 r.b] 65)).alloc (.cells (R4.mk4 ⟨0, 0, 0, 0⟩ ⟨0, 0, 0, 0⟩ ⟨0, 0, 0, 0⟩ ⟨0, 0, 0, 0⟩).arr 80)).heap.size = w.heap.size + 1 + 1 + 1 + 1 := by simp
    refine ⟨by (repeat first | exact Below.refl _ _ | assumption | refine Below.drew ?_ | refine Below.alloc ?_ (by first | exact Nat.le_refl _ | (simp; done) | omega | (simp; omega)) _ | refine Below.setCell ?_ (by first | exact Nat.le_refl _ | (simp; done) | omega | (simp; omega)) _), Lib.hid ?_, Lib.hid ?_, Lib.hid ?_, Lib.hid ?_⟩
    · exact ((((Blk.new w _ _).alloc _).alloc _).alloc _).alloc _
    · rw [← s1]; exact (((Blk.new _ _ _).alloc _).alloc _).alloc _
    · rw [← s3]; exact (Blk.new _ _ _).alloc _
    · rw [← s4]; exact Blk.new _ _ _
  refine stop_named fun W hW => ?_
  obtain ⟨hb0', BX, BY, BR, BO⟩ := HI W hW
  clear HI hW
  unfold Stop
  refine wpList_load_row rfl 80 _ rfl w.heap.size rfl 80 x.arr (0, 0) _ BX.out und_r4 rfl info_r4 ?_
  go_wp2_with fail
  generalize hg7 : w.heap.size + 1 + 1 + 1 + 1 = g7 at *
  generalize hg6 : w.heap.size + 1 + 1 + 1 = g6 at *
  generalize hg5 : w.heap.size + 1 + 1 = g5 at *
  generalize hg4 : w.heap.size + 1 = g4 at *
  have z4 : w.heap.size < g4 := by omega
  have z6 : g4 < g6 := by omega
  have z7 : g6 < g7 := by omega
  clear hg7 hg6 hg5 hg4
  go_loopw [13] (fun i_ w' => ∃ (k : Nat), i_ = .int .i64 k ∧ k ≤ 4 ∧ Below w.heap.size w w' ∧ Hid (Blk w' g4 80 y.arr) ∧ Hid (Blk w' (g6) 80 (R4.mk4 ⟨0, 0, 0, 0⟩ ⟨0, 0, 0, 0⟩ ⟨0, 0, 0, 0⟩ ⟨0, 0, 0, 0⟩).arr) ∧
      Hid (Blk w' (g7) 80 (r4P (fun k => lrJ (x.at_ k) (y.at_ k)) ⟨0, 0, 0, 0⟩ k).arr)) (fun i_ _ => 4 - (intOf i_).toNat)
  case atStart => exact ⟨0, rfl, by omega, hb0', BY, BR, BO⟩
  case round =>
    obtain ⟨k, rfl, hk, hb, hY, hR, hO⟩ := hrel
    by_cases hlt : k < 4
    · have ix := fun w => ixLr x hlt w
      have hYl := hY.out.lt
      have hOl := hO.out.lt
      have hOf := hO.out.frozen
      obtain ⟨y0, y1, y2, y3⟩ := R4.arr_at y hlt
      have b0 := (hY.out.cell (k * 4)).trans y0
      have b1 := (hY.out.cell (k * 4 + 1)).trans y1
      have b2 := (hY.out.cell (k * 4 + 2)).trans y2
      have b3 := (hY.out.cell (k * 4 + 3)).trans y3
      obtain ⟨o0, o1, o2, o3⟩ := R4.arr_at (r4P (fun k => lrJ (x.at_ k) (y.at_ k)) ⟨0, 0, 0, 0⟩ k) hlt
      have c0 := (hO.out.cell (k * 4)).trans o0
      have c1 := (hO.out.cell (k * 4 + 1)).trans o1
      have c2 := (hO.out.cell (k * 4 + 2)).trans o2
      have c3 := (hO.out.cell (k * 4 + 3)).trans o3
      have HP := Lib.hid (r4_put (r4P (fun k => lrJ (x.at_ k) (y.at_ k)) ⟨0, 0, 0, 0⟩ k) hlt (lrJ (x.at_ k) (y.at_ k)))
      have HQ := Lib.hid (r4P_put (fun k => lrJ (x.at_ k) (y.at_ k)) ⟨0, 0, 0, 0⟩ hlt)
      have q1 := HX.out k hlt
      have q2 := HY.out k hlt
      obtain ⟨p0, p1, p2, p3, p4, p5, p6⟩ := q1
      obtain ⟨r0, r1, r2, r3, r4, r5, r6⟩ := q2
      clear y0 y1 y2 y3 o0 o1 o2 o3
      generalize (r4P (fun k => lrJ (x.at_ k) (y.at_ k)) ⟨0, 0, 0, 0⟩ k).at_ k = z at *
      generalize x.at_ k = xk at *
      generalize y.at_ k = yk at *
      obtain ⟨xf, xl, xm, xn⟩ := xk
      obtain ⟨yf, yl, ym, yn⟩ := yk
      obtain ⟨zf, zl, zm, zn⟩ := z
      simp only at p0 p1 p2 p3 p4 p5 p6 r0 r1 r2 r3 r4 r5 r6 ix b0 b1 b2 b3 c0 c1 c2 c3
      subst p6 r6
      have u1 : IntKind.i64.wrap (xl + yf) = xl + yf := IntWalk.i64_in _ (by omega)
      have u2 : IntKind.i64.wrap (xn + yn) = xn + yn := IntWalk.i64_in _ (by clear u1; omega)
      have u3 : IntKind.i64.wrap (xf + yf) = xf + yf := IntWalk.i64_in _ (by clear u1 u2; omega)
      have u4 : IntKind.i64.wrap (yl + xl) = yl + xl := IntWalk.i64_in _ (by clear u1 u2 u3; omega)
      have HJ := Lib.hid (lrJ_at xf xl xm xn yf yl ym yn)
      clear p0 p1 p2 p3 p4 p5 r0 r1 r2 r3 r4 r5 ha ha2 hb0 hb2
      have hsz := Lib.hid (show k * 4 + 3 < (r4P (fun k => lrJ (x.at_ k) (y.at_ k)) ⟨0, 0, 0, 0⟩ k).arr.size by rw [R4.arr_size]; omega)
      have hsz := Lib.hid (show k * 4 + 3 < (r4P (fun k => lrJ (x.at_ k) (y.at_ k)) ⟨0, 0, 0, 0⟩ k).arr.size by rw [R4.arr_size]; omega)
      have HM := Lib.hid (show (xm < ym ∧ (if xm < ym then ym else xm) = ym) ∨ (ym ≤ xm ∧ (if xm < ym then ym else xm) = xm) by split <;> omega)
      by_cases e1 : xf = xn
      · subst e1
        by_cases e2 : yl = yn
        · subst e2
          go_wp2_with fail
          all_goals
            refine named fun w8 H8 => ?_
            have B8 := hO.out.put4 H8.out
            have Y8 := Lib.hid (hY.out.far4 (by omega : g4 ≠ g7) H8.out)
            have R8 := Lib.hid (hR.out.far4 (by omega : g6 ≠ g7) H8.out)
            have X9 := Blk.new4a H8.out
            have X10 := Blk.new4b H8.out
            have BB8 := Lib.hid (below4 hb hb.size (by omega) H8.out)
            have d0 := (B8.cell (k * 4)).trans (put4_at hsz.out).1
            have d1 := (B8.cell (k * 4 + 1)).trans (put4_at hsz.out).2
            have f8 := B8.frozen
            have l8 := B8.lt
            have l9 := X9.lt
            have l10 := X10.lt
            obtain ⟨x0, x1, x2, x3⟩ := (show Blk w8 wr.heap.size 79 #[_, _, _, _] from X9).four'
            obtain ⟨y0, y1, y2, y3⟩ := (show Blk w8 (wr.heap.size + 1) 79 #[_, _, _, _] from X10).four'
            have B8' := Lib.hid B8
            have X9' := Lib.hid X9
            have X10' := Lib.hid X10
            clear B8 X9 X10 H8
            go_region
            go_wp2_with fail
            refine named fun w9 H9 => ?_
            have B9 := B8'.out.put1 H9.out
            have Y9 := Lib.hid (Y8.out.far1 (by omega : g4 ≠ g7) H9.out)
            have R9 := Lib.hid (R8.out.far1 (by omega : g6 ≠ g7) H9.out)
            have X29 := X9'.out.far1 (by omega : wr.heap.size ≠ g7) H9.out
            have BB9 := Lib.hid (below1 BB8.out (by omega) H9.out)
            have c9 := (B8'.out.put1 H9.out).cell (k * 4 + 1)
            rw [Array.getElem?_setIfInBounds_ne (by omega), (put4_at hsz.out).2] at c9
            have f9 := B9.frozen
            have m8 := B9.lt
            have m9 := X29.lt
            obtain ⟨s0, s1, s2, s3⟩ := (show Blk w9 wr.heap.size 79 #[_, _, _, _] from X29).four'
            have B9' := Lib.hid B9
            clear B9 X29 H9 d0 d1 f8 l8 l9 l10 x0 x1 x2 x3 y0 y1 y2 y3
            go_region
            have hm := HM.out
            have BF := (B9'.out.set_ (k * 4 + 1) (.int .i64 (yl + xl)))
            rw [set4_f, set4_l] at BF
            go_wp2_with fail
            go_roundw
            case rel =>
              refine ⟨k + 1, by go_num, by omega, (BB9.out.setCell (p := ⟨g7, k * 4 + 1, none⟩) (by show _ ≤ g7; omega) _).drew, Lib.hid ((Y9.out.far (p := ⟨g7, k * 4 + 1, none⟩) (by show g4 ≠ g7; omega) _).drew), Lib.hid ((R9.out.far (p := ⟨g7, k * 4 + 1, none⟩) (by show g6 ≠ g7; omega) _).drew), Lib.hid ?_⟩
              rw [← HQ.out, ← HP.out, lrJ_at, if_pos rfl, if_pos rfl]
              simp only
              first
                | (rw [show max (max xm ym) (xl + yf) = xl + yf by omega]; exact BF.drew)
                | (rw [show max (max xm ym) (xl + yf) = ym by omega]; exact BF.drew)
                | (rw [show max (max xm ym) (xl + yf) = xm by omega]; exact BF.drew)
            case measure => simp [intOf]; omega
        · go_wp2_with fail
          all_goals
            refine named fun w8 H8 => ?_
            have B8 := hO.out.put4 H8.out
            have Y8 := Lib.hid (hY.out.far4 (by omega : g4 ≠ g7) H8.out)
            have R8 := Lib.hid (hR.out.far4 (by omega : g6 ≠ g7) H8.out)
            have X9 := Blk.new4a H8.out
            have X10 := Blk.new4b H8.out
            have BB8 := Lib.hid (below4 hb hb.size (by omega) H8.out)
            have d0 := (B8.cell (k * 4)).trans (put4_at hsz.out).1
            have d1 := (B8.cell (k * 4 + 1)).trans (put4_at hsz.out).2
            have f8 := B8.frozen
            have l8 := B8.lt
            have l9 := X9.lt
            have l10 := X10.lt
            obtain ⟨x0, x1, x2, x3⟩ := (show Blk w8 wr.heap.size 79 #[_, _, _, _] from X9).four'
            obtain ⟨y0, y1, y2, y3⟩ := (show Blk w8 (wr.heap.size + 1) 79 #[_, _, _, _] from X10).four'
            have B8' := Lib.hid B8
            have X9' := Lib.hid X9
            have X10' := Lib.hid X10
            clear B8 X9 X10 H8
            go_region
            have hm := HM.out
            have BF := (B8'.out.set_ (k * 4) (.int .i64 (xf + yf)))
            rw [set4_f] at BF
            go_wp2_with fail
            go_roundw
            case rel =>
              refine ⟨k + 1, by go_num, by omega, (BB8.out.setCell (p := ⟨g7, k * 4, none⟩) (by show _ ≤ g7; omega) _).drew, Lib.hid ((Y8.out.far (p := ⟨g7, k * 4, none⟩) (by show g4 ≠ g7; omega) _).drew), Lib.hid ((R8.out.far (p := ⟨g7, k * 4, none⟩) (by show g6 ≠ g7; omega) _).drew), Lib.hid ?_⟩
              rw [← HQ.out, ← HP.out, lrJ_at, if_pos rfl, if_neg e2]
              simp only
              first
                | (rw [show max (max xm ym) (xl + yf) = xl + yf by omega]; exact BF.drew)
                | (rw [show max (max xm ym) (xl + yf) = ym by omega]; exact BF.drew)
                | (rw [show max (max xm ym) (xl + yf) = xm by omega]; exact BF.drew)
            case measure => simp [intOf]; omega
      · by_cases e2 : yl = yn
        · subst e2
          go_wp2_with fail
          all_goals
            refine named fun w8 H8 => ?_
            have B8 := hO.out.put4 H8.out
            have Y8 := Lib.hid (hY.out.far4 (by omega : g4 ≠ g7) H8.out)
            have R8 := Lib.hid (hR.out.far4 (by omega : g6 ≠ g7) H8.out)
            have X9 := Blk.new4a H8.out
            have X10 := Blk.new4b H8.out
            have BB8 := Lib.hid (below4 hb hb.size (by omega) H8.out)
            have d0 := (B8.cell (k * 4)).trans (put4_at hsz.out).1
            have d1 := (B8.cell (k * 4 + 1)).trans (put4_at hsz.out).2
            have f8 := B8.frozen
            have l8 := B8.lt
            have l9 := X9.lt
            have l10 := X10.lt
            obtain ⟨x0, x1, x2, x3⟩ := (show Blk w8 wr.heap.size 79 #[_, _, _, _] from X9).four'
            obtain ⟨y0, y1, y2, y3⟩ := (show Blk w8 (wr.heap.size + 1) 79 #[_, _, _, _] from X10).four'
            have B8' := Lib.hid B8
            have X9' := Lib.hid X9
            have X10' := Lib.hid X10
            clear B8 X9 X10 H8
            go_region
            have hm := HM.out
            have BF := (B8'.out.set_ (k * 4 + 1) (.int .i64 (yl + xl)))
            rw [set4_l] at BF
            go_wp2_with fail
            go_roundw
            case rel =>
              refine ⟨k + 1, by go_num, by omega, (BB8.out.setCell (p := ⟨g7, k * 4 + 1, none⟩) (by show _ ≤ g7; omega) _).drew, Lib.hid ((Y8.out.far (p := ⟨g7, k * 4 + 1, none⟩) (by show g4 ≠ g7; omega) _).drew), Lib.hid ((R8.out.far (p := ⟨g7, k * 4 + 1, none⟩) (by show g6 ≠ g7; omega) _).drew), Lib.hid ?_⟩
              rw [← HQ.out, ← HP.out, lrJ_at, if_neg e1, if_pos rfl]
              simp only
              first
                | (rw [show max (max xm ym) (xl + yf) = xl + yf by omega]; exact BF.drew)
                | (rw [show max (max xm ym) (xl + yf) = ym by omega]; exact BF.drew)
                | (rw [show max (max xm ym) (xl + yf) = xm by omega]; exact BF.drew)
            case measure => simp [intOf]; omega
        · go_wp2_with fail
          all_goals
            have hm := HM.out
            go_roundw
            case rel =>
              refine ⟨k + 1, by go_num, by omega, ?_, Lib.hid ?_, Lib.hid ?_, Lib.hid ?_⟩
              · exact below4 hb hb.size (by omega) (Eq.refl _)
              · exact hY.out.far4 (by omega : g4 ≠ g7) (Eq.refl _)
              · exact hR.out.far4 (by omega : g6 ≠ g7) (Eq.refl _)
              · rw [← HQ.out, ← HP.out, lrJ_at, if_neg e1, if_neg e2]
                simp only
                rw [show max (max xm ym) (xl + yf) = (if (if xm < ym then ym else xm) < xl + yf then xl + yf else if xm < ym then ym else xm) by
                  generalize (if xm < ym then ym else xm) = v at hm ⊢
                  split <;> omega]
                exact hO.out.put4 (Eq.refl _)
            case measure => simp [intOf]; omega
    · obtain rfl : k = 4 := by omega
      have hOl := hO.out.lt
      have hRl := hR.out.lt
      go_wp2_with (with_reducible refine stopL ?_)
      unfold Stop
      refine wpList_load_row rfl 80 _ rfl g7 rfl 80 (lrG x y r).arr (0, 0) _ hO.out und_r4 rfl info_r4 ?_
      refine wpList_store_row rfl 80 _ _ rfl g6 (lrG x y r).arr rfl rfl 80 _ hR.out info_r4 rfl (R4.arr_one _) ?_
      have HZ := Lib.hid (hR.out.row (cs' := (lrG x y r).arr))
      have hbz := Lib.hid (below_setRow hb (by omega : w.heap.size ≤ g6) (lrG x y r).arr)
      generalize wr.setRow g6 (lrG x y r).arr = w9 at *
      go_wp2_with fail
      exact bodyPost_ret (v := .agg (lrG x y r).arr) (results_cell Try.results43 _ _ _ (ad := ⟨g6, 0, none⟩) (by rfl) (run_loadVar_row (P := Try.prog) w9 g6 80 80 _ (0, 0) _ HZ.out und_r4 rfl info_r4)) rfl ⟨rfl, hbz.out⟩
end Go.Proofs.Ytfanphhlagjkdaa


/-
  The longest runs of the letters in the program: the whole.
-/
namespace Go.Proofs.Ytfanphhlagjkdaa
open Go.RowKit

theorem stopS {P : Program} {ops : Array Oper} {Q : Exit → Act → World → Prop} {a : Act} {w : World} {d : Option Tmp} {x y : Operand} {t : TypeId} {pos : String} {af : Array Edge} {g : Option (Tmp × Bool)} {rest : List Oper} (h : Stop (wpList P ops Q (⟨d, .store 80 x y, t, pos, af, g⟩ :: rest) a w)) : wpList P ops Q (⟨d, .store 80 x y, t, pos, af, g⟩ :: rest) a w := h
def lrL (rs : List Fac) : List Int := if (gOk rs).isSome = false then [] else lrTop rs
def lrC (rs : List Fac) : Int := if (gOk rs).isSome = false then 1 else 0
theorem lrTop_len (rs : List Fac) : (lrTop rs).length = 4 := by
  unfold lrTop
  split
  · rfl
  · simp
theorem lrL_len (rs : List Fac) : (lrL rs).length ≤ 4 := by
  unfold lrL
  split
  · simp
  · rw [lrTop_len]; omega
theorem lrTop_at (rs : List Fac) {k : Nat} (h : k < 4) : (lrTop rs)[k]? = some ((if rs.length = 0 then R4.nil else (lrAll rs).getD (rs.length - 1) R4.nil).at_ k).m := by
  unfold lrTop
  split
  · match k, h with
    | 0, _ => rfl
    | 1, _ => rfl
    | 2, _ => rfl
    | 3, _ => rfl
  · rw [List.getElem?_map, List.getElem?_range h]; rfl
set_option maxHeartbeats 2000000 in
set_option maxRecDepth 100000 in
theorem topR_any (A : Option Addr) (n c : Nat) (xs : List R4) (w : World) (hn : n ≤ 1048577) (h0 : 0 < n) (hr : Rd w w.heap.size A n 16 encR4 xs) :
    Calls Try.prog 44 #[.slice A n c] w (Ret (.agg (xs.getD (n - 1) R4.nil).arr) w) := by
  obtain ⟨b, o, rfl, hB, x, gx, hc⟩ := hr.at_ (k := n - 1) (by omega)
  have e1 := Lib.hid (show xs.getD (n - 1) R4.nil = x by rw [List.getD_eq_getElem?_getD, gx]; rfl)
  have c0 : w.cell? ⟨b, o + (n - 1) * 16, none⟩ = some (.int .i64 x.f0) := hc 0 _ rfl
  have c1 : w.cell? ⟨b, o + (n - 1) * 16 + 1, none⟩ = some (.int .i64 x.l0) := hc 1 _ rfl
  have c2 : w.cell? ⟨b, o + (n - 1) * 16 + 2, none⟩ = some (.int .i64 x.m0) := hc 2 _ rfl
  have c3 : w.cell? ⟨b, o + (n - 1) * 16 + 3, none⟩ = some (.int .i64 x.n0) := hc 3 _ rfl
  have c4 : w.cell? ⟨b, o + (n - 1) * 16 + 4, none⟩ = some (.int .i64 x.f1) := hc 4 _ rfl
  have c5 : w.cell? ⟨b, o + (n - 1) * 16 + 5, none⟩ = some (.int .i64 x.l1) := hc 5 _ rfl
  have c6 : w.cell? ⟨b, o + (n - 1) * 16 + 6, none⟩ = some (.int .i64 x.m1) := hc 6 _ rfl
  have c7 : w.cell? ⟨b, o + (n - 1) * 16 + 7, none⟩ = some (.int .i64 x.n1) := hc 7 _ rfl
  have c8 : w.cell? ⟨b, o + (n - 1) * 16 + 8, none⟩ = some (.int .i64 x.f2) := hc 8 _ rfl
  have c9 : w.cell? ⟨b, o + (n - 1) * 16 + 9, none⟩ = some (.int .i64 x.l2) := hc 9 _ rfl
  have c10 : w.cell? ⟨b, o + (n - 1) * 16 + 10, none⟩ = some (.int .i64 x.m2) := hc 10 _ rfl
  have c11 : w.cell? ⟨b, o + (n - 1) * 16 + 11, none⟩ = some (.int .i64 x.n2) := hc 11 _ rfl
  have c12 : w.cell? ⟨b, o + (n - 1) * 16 + 12, none⟩ = some (.int .i64 x.f3) := hc 12 _ rfl
  have c13 : w.cell? ⟨b, o + (n - 1) * 16 + 13, none⟩ = some (.int .i64 x.l3) := hc 13 _ rfl
  have c14 : w.cell? ⟨b, o + (n - 1) * 16 + 14, none⟩ = some (.int .i64 x.m3) := hc 14 _ rfl
  have c15 : w.cell? ⟨b, o + (n - 1) * 16 + 15, none⟩ = some (.int .i64 x.n3) := hc 15 _ rfl
  clear gx hc hr
  have hb0 : Below w.heap.size w (w.alloc (.cells R4.nil.arr 80)) := by (repeat first | exact Below.refl _ _ | assumption | refine Below.drew ?_ | refine Below.alloc ?_ (by first | exact Nat.le_refl _ | (simp; done) | omega | (simp; omega)) _ | refine Below.setCell ?_ (by first | exact Nat.le_refl _ | (simp; done) | omega | (simp; omega)) _)
  have BX := Lib.hid (Blk.new w 80 R4.nil.arr)
  have hb0' := Lib.hid hb0
  go_enter Try.func44, Try.ntmps44
  go_wp2_with (with_reducible refine stopS ?_)
  unfold Stop
  refine wpList_store_row rfl 80 _ _ rfl w.heap.size x.arr rfl rfl 80 _ BX.out info_r4 rfl (R4.arr_one _) ?_
  have HZ := Lib.hid (BX.out.row (cs' := x.arr))
  have hbz := Lib.hid (below_setRow hb0'.out (Nat.le_refl _) x.arr)
  go_wp2_with fail
  exact bodyPost_ret (v := .agg x.arr) (results_cell Try.results44 _ _ _ (ad := ⟨w.heap.size, 0, none⟩) (by rfl) (run_loadVar_row (P := Try.prog) _ w.heap.size 80 80 _ (0, 0) _ HZ.out und_r4 rfl info_r4)) rfl ⟨by rw [e1.out], hbz.out⟩
set_option maxHeartbeats 2000000 in
set_option maxRecDepth 100000 in
theorem implLr_any (A : Option Addr) (n c : Nat) (rs : List Fac) (w : World) (hn : n ≤ 1048576) (hr : Rd w w.heap.size A n 3 Fac.cells rs) (hok : ∀ f ∈ rs, f.l.size ≤ maxLen) :
    Calls Try.prog 17 #[.agg #[.slice A n c]] w (RetNewC w 2 1 intE (lrL rs) (lrC rs)) := by
  have hb0 : Below w.heap.size w (w.alloc (.cells #[.slice A n c] 26)) := by (repeat first | exact Below.refl _ _ | assumption | refine Below.drew ?_ | refine Below.alloc ?_ (by first | exact Nat.le_refl _ | (simp; done) | omega | (simp; omega)) _ | refine Below.setCell ?_ (by first | exact Nat.le_refl _ | (simp; done) | omega | (simp; omega)) _)
  have hB0 := Lib.hid (Blk.new w 26 #[.slice A n c])
  have hl := Lib.hid hr.len
  have HR := Lib.hid hr; clear hr
  have HO := Lib.hid hok; clear hok
  rcases hg : gOk rs with _ | ls
  · have e1 := Lib.hid (show lrL rs = [] by unfold lrL; rw [hg]; rfl)
    have e2 := Lib.hid (show lrC rs = 1 by unfold lrC; rw [hg]; rfl)
    have HG := Lib.hid (show (gOk rs).isSome = false by rw [hg]; rfl)
    clear hg
    go_enter Try.func17, Try.ntmps17
    go_wp2_with fail
    refine (validG_any A n c rs _ (by omega) (HR.out.next hb0) HO.out false HG.out).mono ?_
    rintro e w1 ⟨rfl, hb1⟩
    go_wp2_with fail
    go_ret2
    refine ⟨none, 0, by rw [e1.out, e2.out]; rfl, ?_, hb0.trans (hb1.mono hb0.size)⟩
    rw [e1.out]
    exact World.ownsRow_nil _ _ _ _
  have e1 := Lib.hid (show lrL rs = lrTop rs by unfold lrL; rw [hg]; rfl)
  have e2 := Lib.hid (show lrC rs = 0 by unfold lrC; rw [hg]; rfl)
  have HG := Lib.hid (show (gOk rs).isSome = true by rw [hg]; rfl)
  have HL := Lib.hid (gOk_lens hg).1
  clear hg
  go_enter Try.func17, Try.ntmps17
  go_wp2_with fail
  refine (validG_any A n c rs _ (by omega) (HR.out.next hb0) HO.out true HG.out).mono ?_
  rintro e w1 ⟨rfl, hb1⟩
  have b1 := hb0.trans (hb1.mono hb0.size)
  have cg1 := (hB0.out.next hb1).cell 0
  have lg1 := (hB0.out.next hb1).lt
  go_wp2_with fail
  clear cg1 lg1
  refine (foldR_any 42 43 (enterOk Try.func42 (by kernel_rfl) (by kernel_rfl)) (enterOk Try.func43 (by kernel_rfl) (by kernel_rfl)) #[] #[] lrF lrG R4.nil A n c rs w1 hn (HR.out.next b1) (wf_of HL.out) ?_ ?_).mono ?_
  · intro k r hr h0 w' hb'
    rcases wf_of HL.out k r hr with ⟨h0', _⟩ | ⟨cc, hcc, hxl, _⟩
    · exact absurd h0' h0
    · exact lr1_any (letN r.l) w' (letN_lt (by rw [hxl]; exact hcc))
  · intro k r hr h0 w' hb'
    have hk : k < rs.length := (List.getElem?_eq_some_iff.1 hr).1
    rcases wf_of HL.out k r hr with ⟨_, ha0, ha1, hb0, hb1⟩ | ⟨cc, _, hxl, _⟩
    · rw [outs_full R4.nil lrF lrG (k := k) (i := r.a.toNat) (by omega) (by omega), outs_full R4.nil lrF lrG (k := k) (i := r.b.toNat) (by omega) (by omega)]
      have q1 := lr_bound HL.out (k := r.a.toNat) (by omega)
      have q2 := lr_bound HL.out (k := r.b.toNat) (by omega)
      have m1 := lens_bound HL.out (i := r.a.toNat) (by omega)
      have m2 := lens_bound HL.out (i := r.b.toNat) (by omega)
      exact lr2_any ((lrAll rs).getD r.a.toNat R4.nil) ((lrAll rs).getD r.b.toNat R4.nil) r _ _ w' m1.1 m1.2 m2.1 m2.2 q1 q2
    · rw [hxl] at h0; exact absurd h0 (show ¬ (1 : Nat) = 0 by omega)
  rintro e4 w5 ⟨A3, c3, rfl, own5, hb5⟩
  have b5 := b1.trans (hb5.mono b1.size)
  have r5 := Lib.hid (Rd.of_own (enc := encR4) (fun y _ => lenR4 y) rfl own5)
  have hlf := foldAll_len R4.nil lrF lrG R4.nil rs
  have ht := Lib.hid (foldAll_top R4.nil lrF lrG R4.nil rs)
  clear own5
  generalize foldAll R4.nil lrF lrG R4.nil rs = out at *
  have hlo : out.length ≤ 1048577 := by have := hl.out; omega
  go_wp2_with fail
  have b56 : Below w5.heap.size w5 (w5.alloc (.cells #[] 2)) := by (repeat first | exact Below.refl _ _ | assumption | refine Below.drew ?_ | refine Below.alloc ?_ (by first | exact Nat.le_refl _ | (simp; done) | omega | (simp; omega)) _ | refine Below.setCell ?_ (by first | exact Nat.le_refl _ | (simp; done) | omega | (simp; omega)) _)
  refine (topR_any A3 _ c3 out _ hlo (by omega) (r5.out.next b56)).mono ?_
  rintro e4 w6 ⟨rfl, hb6⟩
  rw [ht.out]
  have HT := Lib.hid (fun (k : Nat) (hk : k < 4) => lrTop_at rs hk)
  generalize (if rs.length = 0 then R4.nil else (lrAll rs).getD (rs.length - 1) R4.nil) = y at *
  have hlen := Lib.hid (lrTop_len rs)
  have z5 := b5.size
  have own0 : (w5.alloc (.cells #[] 2)).ownsRow w.heap.size 2 1 (.slice (some ⟨w5.heap.size, 0, none⟩) 0 0) 0 (((lrTop rs).take 0).flatMap intE) := by
    simpa using World.ownsRow_made (base := w.heap.size) (e := 2) (size := 1) w5 #[] 0 z5 (by unfold maxLen; omega) rfl
  have O6 := Lib.hid (own_next own0 hb6)
  have b6 := b5.trans ((b56.trans (hb6.mono b56.size)).mono b5.size)
  clear own0 hlf r5 ht
  go_wp2_with fail
  go_loopw [5, 17] (fun o_ i_ w' => ∃ (k : Nat) (A' : Option Addr) (c' : Nat), i_ = .int .i64 k ∧ o_ = .slice A' k c' ∧ k ≤ 4 ∧ Hid (w'.ownsRow w.heap.size 2 1 (.slice A' k c') k (((lrTop rs).take k).flatMap intE)) ∧ Below w.heap.size w w') (fun _ i_ _ => 4 - (intOf i_).toNat)
  case atStart => exact ⟨0, _, 0, rfl, rfl, by omega, O6, b6⟩
  case round =>
    obtain ⟨k, A', c', rfl, rfl, hk, hown, hb⟩ := hrel
    by_cases hlt : k < 4
    · have ix := fun w => ixLr y hlt w
      have hx := Lib.hid (HT.out k hlt)
      have hs := Lib.hid (show (lrTop rs).take (k + 1) = (lrTop rs).take k ++ [(y.at_ k).m] by rw [List.take_add_one, HT.out k hlt]; rfl)
      generalize y.at_ k = z at *
      obtain ⟨zf, zl, zm, zn⟩ := z
      simp only at ix hs
      have hgA : ((wr.alloc (.cells #[.int .i64 zf, .int .i64 zl, .int .i64 zm, .int .i64 zn] 79)).alloc (.cells #[.int .i64 zm] 2)).heap[wr.heap.size + 1]? = some (.cells #[.int .i64 zm] 2 (0, 0)) := by
        have h := heap_alloc_new (wr.alloc (.cells #[.int .i64 zf, .int .i64 zl, .int .i64 zm, .int .i64 zn] 79)) (.cells #[.int .i64 zm] 2)
        rw [show (wr.alloc (.cells #[.int .i64 zf, .int .i64 zl, .int .i64 zm, .int .i64 zn] 79)).heap.size = wr.heap.size + 1 by simp] at h
        exact h
      have HgA := Lib.hid hgA
      clear hgA
      go_wp2_with
        (at_builtin
         refine wpList_push (w0 := w) rfl _ _ _ rfl w.heap.size 2 1 8 elem_int intE _ k c' ((lrTop rs).take k) rfl ((hown.out.alloc _).alloc _) (wr.heap.size + 1) zm #[.int .i64 zm] 2 (0, 0) rfl HgA.out rfl rfl (by simp [intE, Value.oneCell']) (by omega) (by omega) (by unfold maxLen; omega) rfl ((hb.alloc hb.size _).alloc (by have := hb.size; simp; omega) _) ?_
         intro A9 c9 w9 own9 hg9 hat9 hb9
         have O9 := Lib.hid own9; clear own9)
      go_roundw
      case rel =>
        refine ⟨k + 1, A9, c9, by go_num, rfl, by omega, Lib.hid ?_, hb9⟩
        rw [hs.out]; exact O9.out
      case measure => simp [intOf]; omega
    · obtain rfl : k = 4 := by omega
      have e4 := Lib.hid (show (lrTop rs).take 4 = lrTop rs from List.take_of_length_le (by rw [hlen.out]; omega))
      go_wp2_with fail
      go_ret2
      refine ⟨A', c', by rw [e1.out, e2.out, hlen.out]; rfl, ?_, hb⟩
      rw [e1.out, hlen.out, ← e4.out]
      exact hown.out
end Go.Proofs.Ytfanphhlagjkdaa
