/-
  How often letters come behind letters: in the program.
-/
import Derived.Test.YtlokofafojepdaaPairs
import Derived.Test.YtlokofafojepdaaFoldT
namespace Go.Proofs.Ytlokofafojepdaa
open Go.RowKit

def edgF (l : Nat) : Ed := ⟨(l : Int), (l : Int)⟩
def edgG (a b : Ed) (_ : Fac) : Ed := ⟨a.f, b.l⟩
abbrev edgAll (rs : List Fac) : List Ed := full Ed.nil edgF edgG rs
theorem edg_f {rs : List Fac} (hwf : WF rs) {k : Nat} (hk : k < rs.length) : ((edgAll rs).getD k Ed.nil).f = (edf rs).getD k 0 :=
  full_map Ed.nil edgF edgG 0 edF edGf Ed.f hwf (fun _ => rfl) (fun _ _ _ => rfl) k hk
theorem edg_l {rs : List Fac} (hwf : WF rs) {k : Nat} (hk : k < rs.length) : ((edgAll rs).getD k Ed.nil).l = (edl rs).getD k 0 :=
  full_map Ed.nil edgF edgG 0 edF edGl Ed.l hwf (fun _ => rfl) (fun _ _ _ => rfl) k hk
theorem ix2 (a b : Int) : (∀ w : World, (Instr.index 131 (.agg #[.int .i64 a, .int .i64 b]) (.int .i64 0)).run Try.prog w = .ok (.int .i64 a) w) ∧
    (∀ w : World, (Instr.index 131 (.agg #[.int .i64 a, .int .i64 b]) (.int .i64 1)).run Try.prog w = .ok (.int .i64 b) w) :=
  ⟨fun _ => by kernel_rfl, fun _ => by kernel_rfl⟩
theorem edg1_any (l : Nat) (w : World) (hl : l < 4) : Calls Try.prog 104 #[.int .i64 (l : Int)] w (Ret (.agg #[.int .i64 (edgF l).f, .int .i64 (edgF l).l]) w) := by
  go_enter Try.func104, Try.ntmps104
  go_wp2
  refine bodyPost_ret (v := .agg #[.int .i64 (edgF l).f, .int .i64 (edgF l).l]) ?_ rfl ⟨rfl, by (repeat first | exact Below.refl _ _ | assumption | refine Below.drew ?_ | refine Below.alloc ?_ (by first | exact Nat.le_refl _ | (simp; done) | omega | (simp; omega)) _ | refine Below.setCell ?_ (by first | exact Nat.le_refl _ | (simp; done) | omega | (simp; omega)) _)⟩
  simp [results, Try.results104, go_sem, edgF]
theorem edg2_any (x y : Ed) (r : Fac) (w : World) :
    Calls Try.prog 105 #[.agg #[.int .i64 x.f, .int .i64 x.l], .agg #[.int .i64 y.f, .int .i64 y.l], r.val] w (Ret (.agg #[.int .i64 (edgG x y r).f, .int .i64 (edgG x y r).l]) w) := by
  obtain ⟨xf, xl⟩ := x
  obtain ⟨yf, yl⟩ := y
  unfold Fac.val
  have a1 := (ix2 xf xl).1
  have a2 := (ix2 yf yl).2
  go_enter Try.func105, Try.ntmps105
  go_wp2
  refine bodyPost_ret (v := .agg #[.int .i64 (edgG ⟨xf, xl⟩ ⟨yf, yl⟩ r).f, .int .i64 (edgG ⟨xf, xl⟩ ⟨yf, yl⟩ r).l]) ?_ rfl ⟨rfl, by (repeat first | exact Below.refl _ _ | assumption | refine Below.drew ?_ | refine Below.alloc ?_ (by first | exact Nat.le_refl _ | (simp; done) | omega | (simp; omega)) _ | refine Below.setCell ?_ (by first | exact Nat.le_refl _ | (simp; done) | omega | (simp; omega)) _)⟩
  simp [results, Try.results105, go_sem, edgG]
/-- rows that are empty yet -/
def zT (k : Nat) : List Q4 := List.replicate k Q4.nil
theorem zT_succ (k : Nat) : zT (k + 1) = zT k ++ [Q4.nil] := by unfold zT; rw [List.replicate_succ']
theorem PTab.lt {w : World} {base : Nat} {gs : List Nat} {qs : List Q4} (h : PTab w base gs qs) : ∀ (i p : Nat), gs[i]? = some p → p < w.heap.size := fun i p hi => (h.1.2 i p hi).2.lt
theorem PTab.next {w w' : World} {base : Nat} {gs : List Nat} {qs : List Q4} (h : PTab w base gs qs) (hb : Below w.heap.size w w') : PTab w' base gs qs := h.below hb
theorem PTab.drew {w : World} {base : Nat} {gs : List Nat} {qs : List Q4} (h : PTab w base gs qs) : PTab w.drew base gs qs := h
/-- other rows stay as they are when a row is written -/
theorem own_row_set {w : World} {base e size n g l : Nat} {v : Value} {xs : List Value} {cs : Array Value} (h : w.ownsRow base e size v n xs) (hg : Blk w g 2 cs) (hne : e ≠ 2) (u : Value) : (w.setCell ⟨g, l, none⟩ u).ownsRow base e size v n xs :=
  Go.ownsRow_setCell_other h (fun he => own_blk_ne h hg hne he.symm) u
theorem own_ne_ty {w : World} {b1 b2 e1 e2 s1 s2 n1 n2 : Nat} {v1 v2 : Value} {xs1 xs2 : List Value} (h1 : w.ownsRow b1 e1 s1 v1 n1 xs1) (h2 : w.ownsRow b2 e2 s2 v2 n2 xs2) (hne : e1 ≠ e2) : v1.ownBlock = none ∨ v1.ownBlock ≠ v2.ownBlock := by
  rcases h1.2 with ⟨rfl, _⟩ | ⟨g1, c1, u1, rfl, _, hh1, _⟩
  · left; rfl
  · right
    rcases h2.2 with ⟨rfl, _⟩ | ⟨g2, c2, u2, rfl, _, hh2, _⟩
    · simp [Value.ownBlock]
    · intro he
      have hg : g1 = g2 := by simpa [Value.ownBlock] using he
      subst hg
      rw [hh1] at hh2
      injection hh2 with hh2
      injection hh2 with _ ht
      exact hne ht
/-- the table under way, and the list of uses -/
structure PInv (w : World) (bu B : Nat) (Au : Option Addr) (n cu : Nat) (us : List Int) (A' : Option Addr) (k c' : Nat) (gs : List Nat) (qs : List Q4) (w' : World) : Prop where
  hb : Below w.heap.size w w'
  lo : w.heap.size ≤ B
  sz : B ≤ w'.heap.size
  ou : w'.ownsRow bu 2 1 (.slice Au n cu) n (us.flatMap intE)
  ub : ∀ p, (Value.slice Au n cu).ownBlock = some p → p < B
  o : w'.ownsRow w.heap.size 25 1 (.slice A' k c') k (gs.flatMap encG)
  q : PTab w' B gs qs
  len : qs.length = k
theorem PInv.next {w w1 w2 : World} {bu B : Nat} {Au : Option Addr} {n cu : Nat} {us : List Int} {A' : Option Addr} {k c' : Nat} {gs : List Nat} {qs : List Q4} (h : PInv w bu B Au n cu us A' k c' gs qs w1) (hb : Below w1.heap.size w1 w2) : PInv w bu B Au n cu us A' k c' gs qs w2 :=
  ⟨h.hb.trans (hb.mono h.hb.size), h.lo, Nat.le_trans h.sz hb.size, own_next h.ou hb, h.ub, own_next h.o hb, h.q.next hb, h.len⟩
theorem PInv.set_ {w w1 : World} {bu B : Nat} {Au : Option Addr} {n cu : Nat} {us : List Int} {A' : Option Addr} {k c' : Nat} {gs : List Nat} {qs : List Q4} (h : PInv w bu B Au n cu us A' k c' gs qs w1) {i g l : Nat} (hg : gs[i]? = some g) (hl : l < 4) (v : Int) :
    PInv w bu B Au n cu us A' k c' gs (addT qs i l v) (w1.setCell ⟨g, l, none⟩ (.int .i64 ((qs.getD i Q4.nil).at_ l + v))).drew := by
  have r := h.q.1.2 i g hg
  refine ⟨(h.hb.setCell (Nat.le_trans h.lo r.1) _).drew, h.lo, by simpa using h.sz, (Go.ownsRow_setCell_other h.ou (fun e => by have := h.ub _ e; have := r.1; simp at *; omega) _).drew, h.ub, (own_row_set h.o r.2 (by decide) _).drew, (h.q.set_ hg hl v).drew, by unfold addT; rw [List.length_set]; exact h.len⟩
theorem PInv.push {w wr w9 : World} {bu B : Nat} {Au : Option Addr} {n cu : Nat} {us : List Int} {A' A9 : Option Addr} {k c' c9 : Nat} {gs : List Nat} {qs : List Q4} {o : Obj} (h : PInv w bu B Au n cu us A' k c' gs qs wr)
    (own9 : w9.ownsRow w.heap.size 25 1 (.slice A9 (k + 1) c9) (k + 1) ((gs ++ [wr.heap.size]).flatMap encG))
    (hg9 : ((wr.alloc (.cells (encQ4 Q4.nil).toArray 2)).alloc o).grownBy w9 (Value.slice A' k c').ownBlock) : PInv w bu B Au n cu us A9 (k + 1) c9 (gs ++ [wr.heap.size]) (qs ++ [Q4.nil]) w9 := by
  have b0 := h.hb.size
  have hs : ((wr.alloc (.cells (encQ4 Q4.nil).toArray 2)).alloc o).heap.size = wr.heap.size + 2 := by simp
  refine ⟨((h.hb.alloc b0 _).alloc (by simp; omega) _).grown hg9 (by rw [hs]; omega) (own_ge h.o), h.lo, ?_, ?_, h.ub, own9, ?_, by rw [List.length_append]; simp [h.len]⟩
  · have := hg9.size; have := h.sz; omega
  · exact ((h.ou.alloc _).alloc _).kept hg9 (own_ne_ty h.ou h.o (by decide))
  · have P := PTab.push (w := wr.alloc (.cells (encQ4 Q4.nil).toArray 2)) (base := w.heap.size) (gs := gs) (qs := qs) ⟨⟨h.q.1.1, fun i g hg => ⟨Nat.le_trans h.lo (h.q.1.2 i g hg).1, (h.q.1.2 i g hg).2.alloc _⟩⟩, h.q.2⟩ h.len (h.o.alloc _) (Blk.new wr _ _) b0 h.q.lt o hg9
    refine ⟨⟨P.1.1, fun i g hg => ⟨?_, (P.1.2 i g hg).2⟩⟩, P.2⟩
    by_cases h1 : i < gs.length
    · rw [List.getElem?_append_left h1] at hg
      exact (h.q.1.2 i g hg).1
    · rw [List.getElem?_append_right (by omega)] at hg
      have h2 := (List.getElem?_eq_some_iff.1 hg).1
      rw [show i - gs.length = 0 by simp at h2; omega] at hg
      have : wr.heap.size = g := by simpa using hg
      rw [← this]; exact h.sz
theorem PInv.blk {w wr w9 : World} {bu B : Nat} {Au : Option Addr} {n cu : Nat} {us : List Int} {A' : Option Addr} {k c' : Nat} {gs : List Nat} {qs : List Q4} {o1 o2 : Obj} (h : PInv w bu B Au n cu us A' k c' gs qs wr) {g : Nat} {t : TypeId} {cs : Array Value} (hB : Blk wr g t cs) (ht : 25 ≠ t)
    (hg9 : ((wr.alloc o1).alloc o2).grownBy w9 (Value.slice A' k c').ownBlock) : Blk w9 g t cs :=
  ((hB.alloc _).alloc _).grown hg9 (own_blk_ne h.o hB ht)
theorem PInv.ret {w w1 : World} {bu B : Nat} {Au : Option Addr} {n cu : Nat} {us : List Int} {A' : Option Addr} {c' : Nat} {gs : List Nat} {rs : List Fac} (h : PInv w bu B Au n cu us A' 4 c' gs (pcT rs rs.length) w1) : RetPT w (pcAll rs) (.returned (.slice A' 4 c')) w1 := by
  refine ⟨A', c', gs, ret_slice (pcT_len _ _).symm, ?_, ⟨⟨h.q.1.1, fun i g hg => ⟨Nat.le_trans h.lo (h.q.1.2 i g hg).1, (h.q.1.2 i g hg).2⟩⟩, h.q.2⟩, h.hb⟩
  rw [pcT_len]; exact h.o
set_option maxHeartbeats 4000000 in
set_option maxRecDepth 100000 in
theorem implPairs_any (A : Option Addr) (n c : Nat) (rs : List Fac) (ls : List Int) (w : World) (hn : n ≤ 1000) (hr : Rd w w.heap.size A n 3 Fac.cells rs) (hls : gLens rs [] = some ls) (hll : ls.length = rs.length) :
    Calls Try.prog 67 #[.agg #[.slice A n c]] w (RetPT w (pcAll rs)) := by
  have hl := Lib.hid hr.len
  have HR := Lib.hid hr; clear hr
  have HL := Lib.hid hls; clear hls
  have Hll := Lib.hid hll; clear hll
  go_enter Try.func67, Try.ntmps67
  go_wp2_with fail
  refine namedC fun w1 H1 => ?_
  have b1 : Below w.heap.size w w1 := by rw [H1.out]; (repeat first | exact Below.refl _ _ | assumption | refine Below.drew ?_ | refine Below.alloc ?_ (by first | exact Nat.le_refl _ | (simp; done) | omega | (simp; omega)) _ | refine Below.setCell ?_ (by first | exact Nat.le_refl _ | (simp; done) | omega | (simp; omega)) _)
  have G1 := Lib.hid (show Blk w1 w.heap.size 31 #[.slice A n c] by rw [H1.out]; exact (Blk.new w _ _).alloc _)
  have O1 := Lib.hid (show w1.ownsRow w.heap.size 25 1 (.slice (some ⟨w.heap.size + 1, 0, none⟩) 0 0) 0 ([].flatMap encG) by
    rw [H1.out]; simpa using own_of_blk (base := w.heap.size) (n := 0) (sz := 1) (enc := encG) (xs := []) (Blk.new (w.alloc (.cells #[.slice A n c] 31)) 25 #[]) (by simp) rfl rfl (by unfold maxLen; omega) (fun _ _ => rfl) (fun k x hx => by simp at hx))
  clear H1
  have Hun := Lib.hid (show (usesOf rs).length = n by
    rcases Nat.eq_zero_or_pos n with h | h
    · have h := List.eq_nil_of_length_eq_zero (hl.out.trans h)
      rw [← hl.out, h]; rfl
    · rw [(uses_inv HL.out Hll.out (by rw [hl.out]; exact h)).len]; exact hl.out)
  refine (implUses_any A n c rs ls w1 (by omega) (HR.out.next b1) HL.out Hll.out).mono ?_
  rintro e2 w2 ⟨Au, cu, rfl, ownu, hb2⟩
  rw [Hun.out] at ownu ⊢
  have b2 := Lib.hid (b1.trans (hb2.mono b1.size))
  have G2 := Lib.hid (G1.out.next hb2)
  have P0 := Lib.hid (show PInv w w1.heap.size w2.heap.size Au n cu (usesOf rs) (some ⟨w.heap.size + 1, 0, none⟩) 0 0 [] (zT 0) w2 from
    ⟨b2.out, b2.out.size, Nat.le_refl _, ownu, fun p hp => (ownu.lt p hp).2, own_next O1.out hb2, ⟨⟨rfl, fun i g h => by simp at h⟩, fun i j g h => by simp at h⟩, rfl⟩)
  have lo2 := Lib.hid (show w.heap.size < w2.heap.size from G2.out.lt)
  clear ownu hb2 b1
  have mk4 := make4
  go_wp2_with fail
  go_loopw [3, 11] (fun o_ i_ w' => ∃ (k : Nat) (A' : Option Addr) (c' : Nat) (gs : List Nat), i_ = .int .i64 k ∧ o_ = .slice A' k c' ∧ k ≤ 4 ∧
      Hid (PInv w w1.heap.size w2.heap.size Au n cu (usesOf rs) A' k c' gs (zT k) w') ∧ Hid (Blk w' w.heap.size 31 #[.slice A n c])) (fun _ i_ _ => 4 - (intOf i_).toNat)
  case atStart =>
    exact ⟨0, _, 0, [], rfl, rfl, by omega, P0, G2⟩
  case round =>
    obtain ⟨k, A', c', gs, rfl, rfl, hk, hP, hG⟩ := hrel
    by_cases hlt : k < 4
    · have b0 := hP.out.hb.size
      go_wp2_with
        (at_builtin
         refine wpList_pushG rfl _ _ _ rfl w.heap.size 25 1 24 elemG encG _ k c' gs rfl ((hP.out.o.alloc _).alloc _) (wr.heap.size + 1) wr.heap.size #[.slice (some ⟨wr.heap.size, 0, none⟩) 4 4] 25 (0, 0) rfl (by simpa using heap_alloc_new (wr.alloc _) _) rfl rfl (one_encG _) (by omega) (by omega) (by unfold maxLen; omega) (by simp; omega) ?_
         intro A9 c9 w9 own9 hg9 hat9
         have P9 := Lib.hid (hP.out.push own9 hg9)
         have B9 := Lib.hid (hP.out.blk hG.out (by decide) hg9)
         clear own9 hat9 hg9)
      go_roundw
      case rel =>
        refine ⟨k + 1, A9, c9, gs ++ [wr.heap.size], by go_num, rfl, by omega, Lib.hid ?_, B9⟩
        rw [zT_succ]; exact P9.out
      case measure => simp [intOf]; omega
    · obtain rfl : k = 4 := by omega
      clear mk4 hlt
      rename World => wo
      have cg := hG.out.cell 0
      have lg := hG.out.lt
      have HWF := Lib.hid (wf_of HL.out)
      go_wp2_with fail
      refine (foldE_any 104 105 (enterOk Try.func104 (by kernel_rfl) (by kernel_rfl)) (enterOk Try.func105 (by kernel_rfl) (by kernel_rfl)) #[] #[] edgF edgG Ed.nil A n c rs wo (by omega) ((HR.out.below hP.out.hb).more hP.out.hb.size) HWF.out ?_ ?_).mono ?_
      · intro k r hr h0 w' hb'
        rcases HWF.out k r hr with ⟨h0', _⟩ | ⟨cc, hcc, hxl, _⟩
        · exact absurd h0' h0
        · exact edg1_any (letN r.l) w' (letN_lt (by rw [hxl]; exact hcc))
      · intro k r hr h0 w' hb'
        simpa using edg2_any ((outs Ed.nil edgF edgG rs k).getD r.a.toNat Ed.nil) ((outs Ed.nil edgF edgG rs k).getD r.b.toNat Ed.nil) r w'
      rintro e5 w5 ⟨Ae, ce, rfl, own5, hb5⟩
      have P5 := Lib.hid (hP.out.next hb5)
      have G5 := Lib.hid (hG.out.next hb5)
      have E5 := Lib.hid own5
      have cg5 := G5.out.cell 0
      have lg5 := G5.out.lt
      clear own5 hb5 cg lg
      have HE := Lib.hid (fun (h : 0 < rs.length) => foldAll_pos Ed.nil edgF edgG Ed.nil h)
      have HEl := Lib.hid (foldAll_len Ed.nil edgF edgG Ed.nil rs)
      generalize hfe : foldAll Ed.nil edgF edgG Ed.nil rs = es at *
      clear hfe
      have hes := Lib.hid (show n ≤ es.length ∧ (0 < n → es.length = n) by
        rcases Nat.eq_zero_or_pos n with h | h
        · omega
        · have := HE.out (by rw [hl.out]; exact h)
          have h2 : es.length = n := by rw [this, full_len]; exact hl.out
          omega)
      generalize hen : es.length = en at *
      have hen1 : n ≤ en := hes.out.1
      have hen2 : en ≤ n + 1 := by have := HEl.out.2; rw [hl.out] at this; exact this
      have Hen := Lib.hid hen
      clear hen
      go_wp2_with fail
      rename World => wq
      go_loopw [24] (fun i_ w' => ∃ (i : Nat), i_ = .int .i64 i ∧ i ≤ n ∧ Hid (PInv w w1.heap.size w2.heap.size Au n cu (usesOf rs) A' 4 c' gs (pcT rs i) w') ∧ Hid (Blk w' w.heap.size 31 #[.slice A n c]) ∧
        Hid (w'.ownsRow wo.heap.size 131 2 (.slice Ae en ce) en (es.flatMap encEd))) (fun i_ _ => n - (intOf i_).toNat)
      case atStart => exact ⟨0, rfl, by omega, P5, G5, E5⟩
      case round =>
        obtain ⟨i, rfl, hi, hP, hG, hE⟩ := hrel
        have hb := hP.out.hb
        by_cases hlt : i < n
        · obtain ⟨b, o, x, rfl, hBr, gx, c0, c1, c2⟩ := (HR.out.below hb).fac hlt
          have hBr2 : b < wr.heap.size := Nat.lt_of_lt_of_le hBr hb.size
          have Gx := Lib.hid gx; clear gx
          have hxr := Lib.hid (show i < rs.length by rw [hl.out]; exact hlt)
          have hEF := Lib.hid (HE.out (by rw [hl.out]; omega))
          rcases wf_of HL.out i x Gx.out with ⟨h0, ha0, ha1, hb0, hb1⟩ | ⟨cc, hcc, hxl, hxz⟩
          · have eT := Lib.hid (pcT_pair Gx.out h0)
            go_wp2_with fail
            refine namedC fun w3 H3 => ?_
            have bb3 : Below wr.heap.size wr w3 := by rw [H3.out]; (repeat first | exact Below.refl _ _ | assumption | refine Below.drew ?_ | refine Below.alloc ?_ (by first | exact Nat.le_refl _ | (simp; done) | omega | (simp; omega)) _ | refine Below.setCell ?_ (by first | exact Nat.le_refl _ | (simp; done) | omega | (simp; omega)) _)
            have R3 := Lib.hid (show Blk w3 wr.heap.size 85 #[.string x.l, .int .i64 x.a, .int .i64 x.b] by rw [H3.out]; exact Blk.new wr _ _)
            have P3 := Lib.hid (hP.out.next bb3)
            have G3 := Lib.hid (hG.out.next bb3)
            have E3 := Lib.hid (own_next hE.out bb3)
            clear H3 bb3
            refine (isPair_any x true _ (by simpa [isP] using h0)).mono ?_
            rintro e4 w4 ⟨rfl, bb4⟩
            have R4 := Lib.hid (R3.out.next bb4)
            have P4 := Lib.hid (P3.out.next bb4)
            have G4 := Lib.hid (G3.out.next bb4)
            have E4 := Lib.hid (own_next E3.out bb4)
            have lt4 : wr.heap.size < w4.heap.size := R4.out.lt
            clear bb4 P3 G3 E3 R3 c0 c1 c2
            have hal := edl_b HWF.out (k := x.a.toNat) (by have := hl.out; omega)
            have hbf := edf_b HWF.out (k := x.b.toNat) (by have := hl.out; omega)
            obtain ⟨za, hza⟩ : ∃ za : Nat, (edl rs).getD x.a.toNat 0 = (za : Int) := ⟨((edl rs).getD x.a.toNat 0).toNat, by omega⟩
            obtain ⟨zb, hzb⟩ : ∃ zb : Nat, (edf rs).getD x.b.toNat 0 = (zb : Int) := ⟨((edf rs).getD x.b.toNat 0).toNat, by omega⟩
            have za4 : za < 4 := by omega
            have zb4 : zb < 4 := by omega
            have za4' : (za : Int) < 4 := by omega
            have zb4' : (zb : Int) < 4 := by omega
            have za0 : (0 : Int) ≤ (za : Int) := by omega
            have zb0 : (0 : Int) ≤ (zb : Int) := by omega
            have Hza := Lib.hid hza
            have Hzb := Lib.hid hzb
            clear hza hzb hal hbf
            obtain ⟨p, g, rfl, hp0, hp1, hgk, s1⟩ := encG_at P4.out.o (P4.out.q.1.1.trans P4.out.len) (i := za) za4
            have Hgk := Lib.hid hgk; clear hgk
            have s2 := P4.out.q.at_ Hgk.out zb4
            obtain ⟨ge, cape, hve, _, hge⟩ := hE.out.form (by omega)
            obtain rfl : Ae = some ⟨ge, 0, none⟩ := by injection hve
            clear hve
            have ea := own_at (fun _ _ => lenEd _) E4.out Hen.out Ed.nil x.a.toNat (by omega) 1 (by omega)
            have eb := own_at (fun _ _ => lenEd _) E4.out Hen.out Ed.nil x.b.toNat (by omega) 0 (by omega)
            have sa : w4.cell? ⟨ge, x.a.toNat * 2 + 1, none⟩ = some (.int .i64 (za : Int)) := by
              rw [ea, hEF.out, ← Hza.out, ← edg_l HWF.out (k := x.a.toNat) (by have := hxr.out; omega)]; rfl
            have sb : w4.cell? ⟨ge, x.b.toNat * 2, none⟩ = some (.int .i64 (zb : Int)) := by
              rw [Nat.add_zero] at eb
              rw [eb, hEF.out, ← Hzb.out, ← edg_f HWF.out (k := x.b.toNat) (by have := hxr.out; omega)]; rfl
            obtain ⟨gu, capu, hvu, _, hgu⟩ := P4.out.ou.form (by omega)
            obtain rfl : Au = some ⟨gu, 0, none⟩ := by injection hvu
            clear hvu ea eb
            have su := own_at (sz := 1) (enc := intE) (fun _ _ => rfl) P4.out.ou Hun.out 0 i (by omega) 0 (by omega)
            rw [Nat.mul_one, Nat.add_zero] at su
            have su' : w4.cell? ⟨gu, i, none⟩ = some (.int .i64 ((usesOf rs).getD i 0)) := su
            clear su
            have U := uses_inv HL.out Hll.out (by have := hxr.out; omega)
            have u0 := U.nn i
            have u1 := U.bd i
            have q01 := pcT_bd HL.out Hll.out i (by have := hxr.out; omega) za zb
            have f2 := (P4.out.q.1.2 za g Hgk.out).2.frozen zb
            have lg4 : g < w4.heap.size := (P4.out.q.1.2 za g Hgk.out).2.lt
            have PS := Lib.hid (P4.out.set_ Hgk.out zb4 ((usesOf rs).getD i 0))
            have GS := Lib.hid (G4.out.far (p := ⟨g, zb, none⟩) (by have := (P4.out.q.1.2 za g Hgk.out).1; have := lo2.out; show w.heap.size ≠ g; omega) (.int .i64 (((pcT rs i).getD za Q4.nil).at_ zb + (usesOf rs).getD i 0)))
            have ES := Lib.hid (own_row_set E4.out (P4.out.q.1.2 za g Hgk.out).2 (by decide) (l := zb) (.int .i64 (((pcT rs i).getD za Q4.nil).at_ zb + (usesOf rs).getD i 0)))
            have eT2 := Lib.hid (show pcT rs (i + 1) = addT (pcT rs i) za zb ((usesOf rs).getD i 0) by rw [eT.out, Hza.out, Hzb.out]; rfl)
            generalize hqv : ((pcT rs i).getD za Q4.nil).at_ zb = qv at *
            generalize huv : (usesOf rs).getD i 0 = uv at *
            clear U hqv
            have Huv := Lib.hid huv; clear huv
            obtain ⟨r0, r1, r2⟩ := R4.out.three
            go_wp2_with fail
            go_region
            go_wp2_with fail
            go_roundw
            case rel => exact ⟨i + 1, by go_num, by omega, Lib.hid (by rw [eT2.out]; exact PS.out), Lib.hid GS.out.drew, Lib.hid ES.out.drew⟩
            case measure => simp [intOf] <;> omega
          · have h0' : x.l.size ≠ 0 := by rw [hxl]; show (1 : Nat) ≠ 0; omega
            have eT := Lib.hid (pcT_let Gx.out h0')
            clear hxl hxz hcc
            go_wp2_with fail
            refine namedC fun w3 H3 => ?_
            have bb3 : Below wr.heap.size wr w3 := by rw [H3.out]; (repeat first | exact Below.refl _ _ | assumption | refine Below.drew ?_ | refine Below.alloc ?_ (by first | exact Nat.le_refl _ | (simp; done) | omega | (simp; omega)) _ | refine Below.setCell ?_ (by first | exact Nat.le_refl _ | (simp; done) | omega | (simp; omega)) _)
            clear H3
            refine (isPair_any x false _ (by simpa [isP] using h0')).mono ?_
            rintro e4 w4 ⟨rfl, bb4⟩
            go_wp2_with fail
            go_roundw
            case rel => exact ⟨i + 1, by go_num, by omega, Lib.hid (by rw [eT.out]; exact (hP.out.next bb3).next bb4), Lib.hid ((hG.out.next bb3).next bb4), Lib.hid (own_next (own_next hE.out bb3) bb4)⟩
            case measure => simp [intOf] <;> omega
        · have e9 := Lib.hid (show i = rs.length by rw [hl.out]; omega)
          obtain rfl : i = n := by omega
          go_wp2_with fail
          go_ret
          have := hP.out
          rw [e9.out] at this
          exact this.ret
end Go.Proofs.Ytlokofafojepdaa
