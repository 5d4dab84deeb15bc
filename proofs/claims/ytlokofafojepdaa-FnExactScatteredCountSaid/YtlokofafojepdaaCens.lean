/-
  The program's census, and the reference's table of counts.
-/
import Derived.Test.YtlokofafojepdaaCnt
import Derived.Test.YtlokofafojepdaaLett
import Derived.Test.YtlokofafojepdaaMake
namespace Go.Proofs.Ytlokofafojepdaa
open Go.RowKit

/-- what 'newCensus' leaves -/
def CenPost (A : Option Addr) (n c : Nat) (rs : List Fac) (w : World) (e : Ending) (w' : World) : Prop :=
  Below w.heap.size w w' ∧ ((∃ ls A2 c2 A3 c3, gOk rs = some ls ∧ e = .returned (.tuple #[.agg #[.slice A n c, .slice A2 n c2, .slice A3 (foldAll Q4.nil cntF cntG Q4.nil rs).length c3], .bool true]) ∧
      w'.ownsRow w.heap.size 2 1 (.slice A2 n c2) n (ls.flatMap intE) ∧
      w'.ownsRow w.heap.size 139 4 (.slice A3 (foldAll Q4.nil cntF cntG Q4.nil rs).length c3) (foldAll Q4.nil cntF cntG Q4.nil rs).length ((foldAll Q4.nil cntF cntG Q4.nil rs).flatMap encQ4)) ∨
    (gOk rs = none ∧ e = .returned (.tuple #[.agg #[.slice none 0 0, .slice none 0 0, .slice none 0 0], .bool false])))
set_option maxHeartbeats 1000000 in
set_option maxRecDepth 100000 in
theorem census_any (A : Option Addr) (n c : Nat) (rs : List Fac) (w : World) (hn : n ≤ 1048576) (hr : Rd w w.heap.size A n 3 Fac.cells rs) (hok : ∀ f ∈ rs, f.l.size ≤ maxLen) :
    Calls Try.prog 81 #[.agg #[.slice A n c]] w (CenPost A n c rs w) := by
  have hl := Lib.hid hr.len
  have HR := Lib.hid hr; clear hr
  have HO := Lib.hid hok; clear hok
  go_enter Try.func81, Try.ntmps81
  go_wp2_with fail
  refine namedC fun w3 H3 => ?_
  have hb3 : Below w.heap.size w w3 := by rw [H3.out]; (repeat first | exact Below.refl _ _ | assumption | refine Below.drew ?_ | refine Below.alloc ?_ (by first | exact Nat.le_refl _ | (simp; done) | omega | (simp; omega)) _ | refine Below.setCell ?_ (by first | exact Nat.le_refl _ | (simp; done) | omega | (simp; omega)) _)
  have BG := Lib.hid (show Blk w3 w.heap.size 31 #[.slice A n c] by rw [H3.out]; exact (Blk.new w _ _).alloc _)
  have BC := Lib.hid (show Blk w3 (w.heap.size + 1) 102 #[.slice none 0 0, .slice none 0 0, .slice none 0 0] by rw [H3.out]; simpa using Blk.new (w.alloc _) _ _)
  clear H3
  refine (lengths_any A n c rs w3 (by omega) (HR.out.next hb3) HO.out).mono ?_
  rintro e w4 ⟨hb4, ⟨ls, A2, c2, hg, rfl, hown⟩ | ⟨hg, A', n', c', rfl⟩⟩
  · have Hg := Lib.hid hg
    have HL := Lib.hid (gOk_lens hg).1
    have hll : ls.length = n := (gOk_lens hg).2.2.trans hl.out
    rw [hll] at hown ⊢
    have b4 := hb3.trans (hb4.mono hb3.size)
    have cg := (BG.out.next hb4).cell 0
    have lg := (BG.out.next hb4).lt
    have Own := Lib.hid hown
    clear hg hown hll
    go_wp2_with fail
    refine (foldQ_any 112 113 (enterOk Try.func112 (by kernel_rfl) (by kernel_rfl)) (enterOk Try.func113 (by kernel_rfl) (by kernel_rfl)) #[] #[] cntF cntG Q4.nil A n c rs w4 hn (HR.out.next b4) (wf_of HL.out) ?_ ?_).mono ?_
    · intro k r hr h0 w' hb'
      rcases wf_of HL.out k r hr with ⟨h0', _⟩ | ⟨cc, hcc, hxl, _⟩
      · exact absurd h0' h0
      · exact cens1_any (letN r.l) w' (letN_lt (by rw [hxl]; exact hcc))
    · intro k r hr h0 w' hb'
      have hk : k < rs.length := (List.getElem?_eq_some_iff.1 hr).1
      rcases wf_of HL.out k r hr with ⟨_, ha0, ha1, hb0, hb1⟩ | ⟨cc, _, hxl, _⟩
      · rw [outs_full Q4.nil cntF cntG (k := k) (i := r.a.toNat) (by omega) (by omega), outs_full Q4.nil cntF cntG (k := k) (i := r.b.toNat) (by omega) (by omega)]
        have q1 := fun j => cnt_at HL.out (k := r.a.toNat) (by omega) j
        have q2 := fun j => cnt_at HL.out (k := r.b.toNat) (by omega) j
        have h := cens2_any ((cnts rs).getD r.a.toNat Q4.nil) ((cnts rs).getD r.b.toNat Q4.nil) r w' (fun j => ⟨(q1 j).1, (q1 j).2, (q2 j).1, (q2 j).2⟩)
        simpa using h
      · rw [hxl] at h0; exact absurd h0 (show ¬ (1 : Nat) = 0 by omega)
    rintro e4 w5 ⟨A3, c3, rfl, own5, hb5⟩
    have b5 := b4.trans (hb5.mono b4.size)
    have cg5 := ((BG.out.next hb4).next hb5).cell 0
    have BC5 := (BC.out.next hb4).next hb5
    obtain ⟨d0, d1, d2⟩ := BC5.three
    have f5 := BC5.frozen
    have l5 := BC5.lt
    have O5 := Lib.hid own5
    clear own5 cg lg
    have hfo := Lib.hid (fun (w' : World) (h : Below w5.heap.size w5 w') => own_next O5.out h)
    clear BC5
    go_wp2_with fail
    refine bodyPost_ret (v := .tuple #[.agg #[.slice A n c, .slice A2 n c2, .slice A3 (foldAll Q4.nil cntF cntG Q4.nil rs).length c3], .bool true]) (by simp [results, Try.results81, go_sem, d0, d1, d2]) rfl ?_
    have hgb : ∀ (u v x : Value), w5.grownBy (((w5.setCell ⟨w.heap.size + 1, 0, none⟩ u).setCell ⟨w.heap.size + 1, 1, none⟩ v).setCell ⟨w.heap.size + 1, 2, none⟩ x) (some (w.heap.size + 1)) := fun u v x => gb_setCell (gb_setCell (gb_set w5 _ _ _) _ _) _ _
    have hlt : w.heap.size + 1 < w3.heap.size := BC.out.lt
    refine ⟨((b5.setCell (by simp; try omega) _).setCell (by simp; try omega) _).setCell (by simp; try omega) _, .inl ⟨ls, A2, c2, A3, c3, Hg.out, rfl, ?_, ?_⟩⟩
    · exact (own_kept (own_next Own.out hb5) (hgb _ _ _) hlt).mono hb3.size
    · exact (own_kept O5.out (hgb _ _ _) (by have := hb4.size; omega)).mono b4.size
  · have Hg := Lib.hid hg; clear hg
    have b4 := hb3.trans (hb4.mono hb3.size)
    have BC4 := BC.out.next hb4
    obtain ⟨d0, d1, d2⟩ := BC4.three
    have f4 := BC4.frozen
    have l4 := BC4.lt
    clear BC4
    go_wp2_with fail
    refine bodyPost_ret (v := .tuple #[.agg #[.slice none 0 0, .slice none 0 0, .slice none 0 0], .bool false]) (by simp [results, Try.results81, go_sem, d0, d1, d2]) rfl ⟨?_, .inr ⟨Hg.out, rfl⟩⟩
    exact ((b4.setCell (by simp; try omega) _).setCell (by simp; try omega) _).setCell (by simp; try omega) _
def encG (g : Nat) : List Value := [.slice (some ⟨g, 0, none⟩) 4 4]
theorem one_encG (g : Nat) : ∀ u ∈ encG g, u.oneCell' = true := by
  intro u hu
  obtain rfl : u = .slice (some ⟨g, 0, none⟩) 4 4 := by simpa [encG] using hu
  rfl
theorem elemG : Elem Try.prog 43 25 1 24 := Elem.mk' (z := .slice none 0 0) Try.underlying43 (by kernel_rfl) rfl
def RowsOk (w : World) (base : Nat) (gs : List Nat) (qs : List Q4) : Prop := gs.length = qs.length ∧ ∀ i g, gs[i]? = some g → base ≤ g ∧ Blk w g 2 (encQ4 (qs.getD i Q4.nil)).toArray
def RetRows (w0 : World) (qs : List Q4) (e : Ending) (w' : World) : Prop :=
  ∃ A c gs, e = .returned (.slice A qs.length c) ∧ w'.ownsRow w0.heap.size 25 1 (.slice A qs.length c) qs.length (gs.flatMap encG) ∧ RowsOk w' w0.heap.size gs qs ∧ Below w0.heap.size w0 w'
/-- a table of numbers in memory -/
def Tab (w : World) (B : Nat) (A : Option Addr) (n : Nat) (qs : List Q4) : Prop :=
  qs.length = n ∧ ∀ k, k < n → ∃ b o g, A = some ⟨b, o, none⟩ ∧ b < B ∧ g < B ∧ w.cell? ⟨b, o + k, none⟩ = some (.slice (some ⟨g, 0, none⟩) 4 4) ∧ ∀ j, j < 4 → w.cell? ⟨g, j, none⟩ = some (.int .i64 ((qs.getD k Q4.nil).at_ j))
theorem Tab.next {w w' : World} {A : Option Addr} {n : Nat} {qs : List Q4} (h : Tab w w.heap.size A n qs) (hb : Below w.heap.size w w') : Tab w' w'.heap.size A n qs := by
  refine ⟨h.1, fun k hk => ?_⟩
  obtain ⟨b, o, g, hA, hB, hg, hc, hj⟩ := h.2 k hk
  have := hb.size
  exact ⟨b, o, g, hA, by omega, by omega, (hb.cell (p := ⟨b, o + k, none⟩) hB).trans hc, fun j hj' => (hb.cell (p := ⟨g, j, none⟩) hg).trans (hj j hj')⟩
theorem encG_at {w : World} {base c k : Nat} {A : Option Addr} {gs : List Nat} (h : w.ownsRow base 25 1 (.slice A k c) k (gs.flatMap encG)) (hl : gs.length = k) {i : Nat} (hi : i < k) :
    ∃ p g, A = some ⟨p, 0, none⟩ ∧ base ≤ p ∧ p < w.heap.size ∧ gs[i]? = some g ∧ w.cell? ⟨p, i, none⟩ = some (.slice (some ⟨g, 0, none⟩) 4 4) := by
  obtain ⟨p, cap, hv, hg, hs⟩ := h.form (by omega)
  injection hv with hA _ _
  subst hA
  have hx : gs[i]? = some (gs[i]'(by omega)) := List.getElem?_eq_getElem _
  refine ⟨p, _, rfl, hg, hs, hx, ?_⟩
  rw [h.cellAt i (by omega)]
  have := flat_at (enc := encG) (sz := 1) gs (fun _ _ => rfl) i _ hx 0 (by omega)
  rw [Nat.mul_one, Nat.add_zero] at this
  rw [this]; rfl
theorem Tab.of {w : World} {base c n : Nat} {A : Option Addr} {gs : List Nat} {qs : List Q4} (hn : qs.length = n) (h : w.ownsRow base 25 1 (.slice A n c) n (gs.flatMap encG)) (hr : RowsOk w base gs qs) : Tab w w.heap.size A n qs := by
  refine ⟨hn, fun k hk => ?_⟩
  obtain ⟨p, g, hA, hp, hs, hx, hc⟩ := encG_at h (hr.1.trans hn) hk
  obtain ⟨hg, hB⟩ := hr.2 k g hx
  refine ⟨p, 0, g, hA, hs, hB.lt, by simpa using hc, fun j hj => ?_⟩
  rw [hB.cell]
  simpa using encQ4_at (qs.getD k Q4.nil) hj
def part (q : Q4) (l : Nat) : Array Value := #[.int .i64 (if 0 < l then q.a else 0), .int .i64 (if 1 < l then q.b else 0), .int .i64 (if 2 < l then q.c else 0), .int .i64 (if 3 < l then q.d else 0)]
theorem part_size (q : Q4) (l : Nat) : (part q l).size = 4 := rfl
theorem part_all (q : Q4) : part q 4 = (encQ4 q).toArray := rfl
theorem part_at (q : Q4) {l : Nat} (h : l < 4) : (part q l)[l]? = some (.int .i64 0) := by
  match l, h with
  | 0, _ => rfl
  | 1, _ => rfl
  | 2, _ => rfl
  | 3, _ => rfl
theorem part_set (q : Q4) {l : Nat} (h : l < 4) : (part q l).setIfInBounds l (.int .i64 (q.at_ l)) = part q (l + 1) := by
  match l, h with
  | 0, _ => rfl
  | 1, _ => rfl
  | 2, _ => rfl
  | 3, _ => rfl
theorem part_skip (q : Q4) {l : Nat} (h : l < 4) (h0 : q.at_ l = 0) : part q l = part q (l + 1) := by
  rw [← part_set q h, h0]
  apply Array.ext_getElem?
  intro i
  by_cases hi : i = l
  · subst hi; rw [part_at q h, Array.getElem?_setIfInBounds_self_of_lt (by rw [part_size]; exact h)]
  · rw [Array.getElem?_setIfInBounds_ne (by omega)]
theorem fill_row {w wo wr : World} {k c' l : Nat} {A' : Option Addr} {gs : List Nat} {os : List Q4} {q : Q4} {x : Fac} (hb2 : Below w.heap.size w wr) (hO : wr.ownsRow w.heap.size 25 1 (.slice A' k c') k (gs.flatMap encG))
    (hQ : RowsOk wr w.heap.size gs os) (BX : Blk wr wo.heap.size 85 #[.string x.l, .int .i64 x.a, .int .i64 x.b]) (BL : Blk wr (wo.heap.size + 1) 2 (part q l)) (hgs : ∀ (i g : Nat), gs[i]? = some g → g < wo.heap.size)
    (hw : w.heap.size ≤ wo.heap.size + 1) (hl : l < 4) :
    Below w.heap.size w (wr.setCell ⟨wo.heap.size + 1, l, none⟩ (.int .i64 (q.at_ l))) ∧ (wr.setCell ⟨wo.heap.size + 1, l, none⟩ (.int .i64 (q.at_ l))).ownsRow w.heap.size 25 1 (.slice A' k c') k (gs.flatMap encG) ∧
      RowsOk (wr.setCell ⟨wo.heap.size + 1, l, none⟩ (.int .i64 (q.at_ l))) w.heap.size gs os ∧ Blk (wr.setCell ⟨wo.heap.size + 1, l, none⟩ (.int .i64 (q.at_ l))) wo.heap.size 85 #[.string x.l, .int .i64 x.a, .int .i64 x.b] ∧
      Blk (wr.setCell ⟨wo.heap.size + 1, l, none⟩ (.int .i64 (q.at_ l))) (wo.heap.size + 1) 2 (part q (l + 1)) := by
  refine ⟨hb2.setCell hw _, hO.kept (gb_set wr _ _ _) (.inr (own_blk_ne hO BL (by decide)).symm), ⟨hQ.1, fun i g h => ⟨(hQ.2 i g h).1, (hQ.2 i g h).2.far (by have := hgs i g h; show g ≠ wo.heap.size + 1; omega) _⟩⟩, BX.far (by show wo.heap.size ≠ wo.heap.size + 1; omega) _, ?_⟩
  rw [← part_set q hl]
  exact BL.set_ l _
theorem rows_push {w w8 w9 : World} {k c' g : Nat} {A' : Option Addr} {gs : List Nat} {os : List Q4} {q : Q4} {base : Nat} (hO : w8.ownsRow base 25 1 (.slice A' k c') k (gs.flatMap encG)) (hQ : RowsOk w base gs os) (hk : os.length = k)
    (BL : Blk w g 2 (encQ4 q).toArray) (hg : base ≤ g) (h8 : ∀ (g : Nat) (t : TypeId) (cs : Array Value), Blk w g t cs → Blk w8 g t cs) (hg9 : w8.grownBy w9 (Value.slice A' k c').ownBlock) : RowsOk w9 base (gs ++ [g]) (os ++ [q]) := by
  have hlen := hQ.1
  refine ⟨by simp [hlen], fun i p hp => ?_⟩
  by_cases hi : i < os.length
  · rw [List.getElem?_append_left (by omega)] at hp
    obtain ⟨h1, h2⟩ := hQ.2 i p hp
    have h3 := h8 _ _ _ h2
    refine ⟨h1, ?_⟩
    rw [List.getD_eq_getElem?_getD, List.getElem?_append_left hi, ← List.getD_eq_getElem?_getD]
    exact h3.grown hg9 (own_blk_ne hO h3 (by decide))
  · have hi2 : i = os.length := by
      have := (List.getElem?_eq_some_iff.1 hp).1
      simp at this; omega
    subst hi2
    rw [List.getElem?_append_right (by omega), hlen] at hp
    obtain rfl : g = p := by simpa using hp
    have h3 := h8 _ _ _ BL
    refine ⟨hg, ?_⟩
    rw [List.getD_eq_getElem?_getD, List.getElem?_append_right (by omega)]
    simp only [Nat.sub_self, List.getElem?_cons_zero, Option.getD_some]
    exact h3.grown hg9 (own_blk_ne hO h3 (by decide))
set_option maxHeartbeats 2000000 in
set_option maxRecDepth 100000 in
theorem l05Counts_any (gb : Nat) (A : Option Addr) (n c : Nat) (rs : List Fac) (ls : List Int) (w : World) (hg : gb < w.heap.size) (hc : w.cell? ⟨gb, 0, none⟩ = some (.slice A n c)) (hn : n ≤ 1048576) (hr : Rd w w.heap.size A n 3 Fac.cells rs)
    (hls : gLens rs [] = some ls) :
    Calls Try.prog 41 #[.pointer (some ⟨gb, 0, none⟩)] w (RetRows w (cnts rs)) := by
  have hl := Lib.hid hr.len
  have HL := Lib.hid hls; clear hls
  have hmk := make4
  go_enter Try.func41, Try.ntmps41
  go_wp2
  go_loopw [3, 4] (fun o_ i_ w' => ∃ (k : Nat) (A' : Option Addr) (c' : Nat) (gs : List Nat), i_ = .int .i64 k ∧ o_ = .slice A' k c' ∧ k ≤ n ∧
      Hid (w'.ownsRow w.heap.size 25 1 (.slice A' k c') k (gs.flatMap encG)) ∧ Hid (RowsOk w' w.heap.size gs (outs Q4.nil cntF cntG rs k)) ∧ Below w.heap.size w w') (fun _ i_ _ => n - (intOf i_).toNat)
  case atStart =>
    exact ⟨0, _, 0, [], rfl, rfl, by omega, Lib.hid (by simpa using World.ownsRow_made (base := w.heap.size) (e := 25) (size := 1) w #[] 0 (Nat.le_refl _) (by unfold maxLen; omega) rfl), Lib.hid ⟨by simp [outs, foldG], by simp⟩, by (repeat first | exact Below.refl _ _ | assumption | refine Below.drew ?_ | refine Below.alloc ?_ (by first | exact Nat.le_refl _ | (simp; done) | omega | (simp; omega)) _ | refine Below.setCell ?_ (by first | exact Nat.le_refl _ | (simp; done) | omega | (simp; omega)) _)⟩
  case round =>
    obtain ⟨k, A', c', gs, rfl, rfl, hk, hown, hrow, hb⟩ := hrel
    rename World => wo
    have cg := (hb.cell (p := ⟨gb, 0, none⟩) hg).trans hc
    have lg : gb < wo.heap.size := by have := hb.size; omega
    by_cases hlt : k < n
    · obtain ⟨b, o, x, rfl, hB, gx, c0, c1, c2⟩ := (hr.next hb).fac hlt
      have Hst := Lib.hid (outs_step Q4.nil cntF cntG gx)
      have Hol := Lib.hid (outs_len Q4.nil cntF cntG rs k (by rw [hl.out]; exact hk))
      have Gx := Lib.hid gx; clear gx
      go_wp2_with fail
      refine named fun w1 H1 => ?_
      have b1 : Below wo.heap.size wo w1 := by rw [H1.out]; (repeat first | exact Below.refl _ _ | assumption | refine Below.drew ?_ | refine Below.alloc ?_ (by first | exact Nat.le_refl _ | (simp; done) | omega | (simp; omega)) _ | refine Below.setCell ?_ (by first | exact Nat.le_refl _ | (simp; done) | omega | (simp; omega)) _)
      have BX := Lib.hid (show Blk w1 wo.heap.size 85 #[.string x.l, .int .i64 x.a, .int .i64 x.b] by rw [H1.out]; exact (Blk.new wo _ _).alloc _)
      have BL := Lib.hid (show Blk w1 (wo.heap.size + 1) 2 (part (fStep Q4.nil cntF cntG (outs Q4.nil cntF cntG rs k) x) 0) by rw [H1.out]; simpa [part] using Blk.new (wo.alloc _) 2 #[.int .i64 0, .int .i64 0, .int .i64 0, .int .i64 0])
      clear H1
      have hQ := Lib.hid (show RowsOk w1 w.heap.size gs (outs Q4.nil cntF cntG rs k) from ⟨hrow.out.1, fun i g h => ⟨(hrow.out.2 i g h).1, (hrow.out.2 i g h).2.next b1⟩⟩)
      have hO := Lib.hid (own_next hown.out b1)
      have cb1 := hb.trans (b1.mono hb.size)
      have sz1 := BL.out.lt
      generalize hq : fStep Q4.nil cntF cntG (outs Q4.nil cntF cntG rs k) x = q at *
      have Hq := Lib.hid hq; clear hq
      have hgs := Lib.hid (fun (i g : Nat) (h : gs[i]? = some g) => (hrow.out.2 i g h).2.lt)
      clear cg c0 c1 c2 hown hrow
      go_loopw [7] (fun l_ w' => ∃ (l : Nat), l_ = .int .i64 l ∧ l ≤ 4 ∧ Below w.heap.size w w' ∧ Hid (w'.ownsRow w.heap.size 25 1 (.slice A' k c') k (gs.flatMap encG)) ∧ Hid (RowsOk w' w.heap.size gs (outs Q4.nil cntF cntG rs k)) ∧
          Hid (Blk w' wo.heap.size 85 #[.string x.l, .int .i64 x.a, .int .i64 x.b]) ∧ Hid (Blk w' (wo.heap.size + 1) 2 (part q l))) (fun l_ _ => 4 - (intOf l_).toNat)
      case atStart => exact ⟨0, rfl, by omega, cb1, hO, hQ, BX, BL⟩
      case round =>
        obtain ⟨l, rfl, hl4, hb2, hO2, hQ2, BX2, BL2⟩ := hrel
        clear hO hQ BX BL
        obtain ⟨d0, d1, d2⟩ := BX2.out.three
        have lx := BX2.out.lt
        have ll := BL2.out.lt
        by_cases hl' : l < 4
        · have cl := BL2.out.cell l
          rw [part_at q hl'] at cl
          have fl := BL2.out.frozen l
          have j0 : (0 : Int) ≤ (l : Int) := by omega
          have j1 : (l : Int) < 4 := by omega
          have j2 : ((l : Int)).toNat = l := by omega
          rcases wf_of HL.out k x Gx.out with ⟨h0, ha0, ha1, hb0, hb1⟩ | ⟨cc, hcc, hxl, hxa, hxb⟩
          · have e0 := size0 h0
            have hkr : k ≤ rs.length := by rw [hl.out]; exact hk
            have q1 := cnt_at HL.out (k := x.a.toNat) (by omega) l
            have q2 := cnt_at HL.out (k := x.b.toNat) (by omega) l
            rw [← outs_full Q4.nil cntF cntG (k := k) (i := x.a.toNat) (by omega) hkr] at q1
            rw [← outs_full Q4.nil cntF cntG (k := k) (i := x.b.toNat) (by omega) hkr] at q2
            obtain ⟨p, ga, rfl, hp0, hp1, gga, ea⟩ := encG_at hO2.out (hQ2.out.1.trans Hol.out) (i := x.a.toNat) (by omega)
            obtain ⟨p', gbb, hpp, _, _, ggb, eb⟩ := encG_at hO2.out (hQ2.out.1.trans Hol.out) (i := x.b.toNat) (by omega)
            obtain rfl : p = p' := by injection hpp with hpp; injection hpp
            obtain ⟨hga, BA⟩ := hQ2.out.2 _ _ gga
            obtain ⟨hgb, BB⟩ := hQ2.out.2 _ _ ggb
            have va := BA.cell l
            have vb := BB.cell l
            rw [List.getElem?_toArray, encQ4_at _ hl'] at va vb
            have Hv := Lib.hid (show ((outs Q4.nil cntF cntG rs k).getD x.a.toNat Q4.nil).at_ l + ((outs Q4.nil cntF cntG rs k).getD x.b.toNat Q4.nil).at_ l = q.at_ l by
              rw [← Hq.out]; unfold fStep; rw [if_pos h0, cntG_at])
            generalize ((outs Q4.nil cntF cntG rs k).getD x.a.toNat Q4.nil).at_ l = va_ at *
            generalize ((outs Q4.nil cntF cntG rs k).getD x.b.toNat Q4.nil).at_ l = vb_ at *
            have u1 : IntKind.i64.wrap (va_ + vb_) = va_ + vb_ := IntWalk.i64_in _ (by omega)
            have z1 := BA.lt
            have z2 := BB.lt
            have n1 := hgs.out _ _ gga
            have n2 := hgs.out _ _ ggb
            have hpl : p ≠ wo.heap.size + 1 := fun he => own_blk_ne hO2.out BL2.out (by decide) (by rw [← he]; rfl)
            clear h0 hpp gga ggb BA BB
            go_wp2_with fail
            go_region
            rw [Hv.out]
            generalize hW : (wr.setCell ⟨wo.heap.size + 1, l, none⟩ (.int .i64 (q.at_ l))).drew = w8
            have H8 := Lib.hid hW.symm; clear hW
            have S8 := Lib.hid (show Below w.heap.size w w8 ∧ w8.ownsRow w.heap.size 25 1 (.slice (some ⟨p, 0, none⟩) k c') k (gs.flatMap encG) ∧ RowsOk w8 w.heap.size gs (outs Q4.nil cntF cntG rs k) ∧
                Blk w8 wo.heap.size 85 #[.string x.l, .int .i64 x.a, .int .i64 x.b] ∧ Blk w8 (wo.heap.size + 1) 2 (part q (l + 1)) from by
              rw [H8.out]
              have S := fill_row hb2 hO2.out hQ2.out BX2.out BL2.out hgs.out (by have := hb.size; omega) hl'
              exact ⟨S.1.drew, S.2.1.drew, S.2.2.1, S.2.2.2.1.drew, S.2.2.2.2.drew⟩)
            clear H8
            go_wp2_with fail
            go_roundw
            case rel => exact ⟨l + 1, by go_num, by omega, S8.out.1, Lib.hid S8.out.2.1, Lib.hid S8.out.2.2.1, Lib.hid S8.out.2.2.2.1, Lib.hid S8.out.2.2.2.2⟩
            case measure => simp [intOf]; omega
          · have hq1 : q.at_ l = if cc.toNat - 97 = l then 1 else 0 := by
              rw [← Hq.out]; unfold fStep
              rw [if_neg (by rw [hxl]; show ¬ (1 : Nat) = 0; omega), cntF_at _ hl', hxl, letN_one]
            obtain ⟨xl, xa, xb⟩ := x
            simp only at hxl hxa hxb d0 d1 d2
            subst hxl hxa hxb
            obtain ⟨hl0, hl1⟩ := letB_num hcc
            have e1 := size1 (s := ⟨#[cc]⟩) (show (1 : Nat) ≠ 0 by omega)
            have e2 := size1' (s := ⟨#[cc]⟩) (show (1 : Nat) ≠ 0 by omega)
            have Hcc := Lib.hid hcc
            clear hcc cl fl
            go_wp2_with fail
            refine (l04Letter_any cc Hcc.out _).mono ?_
            rintro e w3 ⟨rfl, hb3⟩
            have b3 := hb2.trans (hb3.mono hb2.size)
            have BX3 := Lib.hid (BX2.out.next hb3)
            have BL3 := Lib.hid (BL2.out.next hb3)
            have hO3 := Lib.hid (own_next hO2.out hb3)
            have hQ3 := Lib.hid (show RowsOk w3 w.heap.size gs (outs Q4.nil cntF cntG rs k) from ⟨hQ2.out.1, fun i g h => ⟨(hQ2.out.2 i g h).1, (hQ2.out.2 i g h).2.next hb3⟩⟩)
            have cl := BL3.out.cell l
            rw [part_at q hl'] at cl
            have fl := BL3.out.frozen l
            have ll3 := BL3.out.lt
            by_cases hc' : cc.toNat - 97 = l
            · rw [if_pos hc'] at hq1
              have e3 : ((l : Int) == (cc.toNat : Int) - 97) = true := by simp; omega
              have S8 := Lib.hid (fill_row (x := ⟨⟨#[cc]⟩, 0, 0⟩) b3 hO3.out hQ3.out BX3.out BL3.out hgs.out (by have := hb.size; omega) hl')
              rw [hq1] at S8
              clear hc'
              go_wp2_with fail
              go_roundw
              case rel => exact ⟨l + 1, by go_num, by omega, S8.out.1, Lib.hid S8.out.2.1, Lib.hid S8.out.2.2.1, Lib.hid S8.out.2.2.2.1, Lib.hid S8.out.2.2.2.2⟩
              case measure => simp [intOf]; omega
            · rw [if_neg hc'] at hq1
              have e3 : ((l : Int) == (cc.toNat : Int) - 97) = false := by simp; omega
              have BL4 := Lib.hid (show Blk w3 (wo.heap.size + 1) 2 (part q (l + 1)) by rw [← part_skip q hl' hq1]; exact BL3.out)
              clear hc'
              go_wp2_with fail
              go_roundw
              case rel => exact ⟨l + 1, by go_num, by omega, b3, hO3, hQ3, BX3, BL4⟩
              case measure => simp [intOf]; omega
        · obtain rfl : l = 4 := by omega
          rw [part_all] at BL2
          go_wp2_with
            (at_builtin
             refine wpList_pushG rfl _ _ _ rfl w.heap.size 25 1 24 elemG encG _ k c' gs rfl (hO2.out.alloc _) wr.heap.size (wo.heap.size + 1) #[.slice (some ⟨wo.heap.size + 1, 0, none⟩) 4 4] 25 (0, 0) rfl (heap_alloc_new _ _) rfl rfl (one_encG _) (by omega) (by omega) (by unfold maxLen; omega) (by have := hb2.size; simp; omega) ?_
             intro A9 c9 w9 own9 hg9 hat9
             have O9 := Lib.hid own9
             have hz9 : w.heap.size ≤ (wr.alloc (Obj.cells #[Value.slice (some { block := wo.heap.size + 1, off := 0 }) 4 4] 25)).heap.size := (by have := hb2.size; simp; omega)
             have hb9 := Lib.hid ((hb2.alloc hb2.size _).grown hg9 hz9 (own_ge hO2.out))
             have G9 := Lib.hid hg9
             clear own9 hat9 hg9)
          go_roundw
          case rel =>
            refine ⟨k + 1, A9, c9, gs ++ [wo.heap.size + 1], by go_num, rfl, by omega, O9, Lib.hid ?_, hb9.out⟩
            rw [Hst.out]
            exact rows_push (hO2.out.alloc _) hQ2.out Hol.out BL2.out (by have := hb.size; omega) (fun g t cs h => h.alloc _) G9.out
          case measure => simp [intOf]; omega
    · have e := Lib.hid (show outs Q4.nil cntF cntG rs k = cnts rs from outs_all Q4.nil cntF cntG rs k (by rw [hl.out]; omega))
      have e2 := Lib.hid (outs_len Q4.nil cntF cntG rs k (by rw [hl.out]; omega))
      have hrow' := Lib.hid (show RowsOk wo w.heap.size gs (cnts rs) by rw [← e.out]; exact hrow.out)
      have e3 := Lib.hid (show (cnts rs).length = k by rw [← e.out, e2.out])
      go_wp2_with fail
      go_ret
      refine ⟨A', c', gs, ret_slice e3.out.symm, ?_, hrow'.out, hb⟩
      rw [e3.out]
      exact hown.out
end Go.Proofs.Ytlokofafojepdaa
