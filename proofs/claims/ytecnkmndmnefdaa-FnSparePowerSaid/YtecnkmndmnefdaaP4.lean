/-
  Texts of this claim, merged: Refs FoldV Spare Emb EmbI EmbS EmbF SpM Src Drawn Tail Stage Stage3 PlainI.
-/
import Derived.Test.YtecnkmndmnefdaaP3
import Derived.Deep.RegionHeld3
import Derived.Laws.BitsLemmas
import Derived.Laws.Bits64
import Derived.StillTail
import Derived.OrdersHeld
import Derived.Deep.RegionHeld
import Derived.Lib.Bytealg


/-
  Values that refer to memory: what holds of such a value stays where memory only grows.
-/
namespace Go.Proofs.Ytecnkmndmnefdaa
open Go.RowKit

def encV (v : Value) : List Value := [v]
/-- 'Rep w v y': in the world w the slice v holds y; E is the element type of the rows that such values lie in -/
structure RepOk {β : Type} (E : TypeId) (Rep : World → Value → β → Prop) : Prop where
  next : ∀ {w w' : World} {v : Value} {y : β}, Rep w v y → Below w.heap.size w w' → Rep w' v y
  grown : ∀ {w w' : World} {v : Value} {y : β} {g : Nat} {cs : Array Value}, Rep w v y → Blk w g E cs → w.grownBy w' (some g) → Rep w' v y
  sl : ∀ {w : World} {v : Value} {y : β}, Rep w v y → ∃ p n c, v = .slice p n c
theorem RepOk.one {β : Type} {E : TypeId} {Rep : World → Value → β → Prop} (RO : RepOk E Rep) {w : World} {v : Value} {y : β} (h : Rep w v y) : v.oneCell' = true := by
  obtain ⟨p, n, c, rfl⟩ := RO.sl h; rfl
theorem RepOk.next' {β : Type} {E : TypeId} {Rep : World → Value → β → Prop} (RO : RepOk E Rep) {w w' : World} {v : Value} {y : β} (h : Rep w v y) (hb : Below w.heap.size w w') : Rep w' v y := RO.next h hb
/-- a list of such values -/
def Reps {β : Type} (d : β) (Rep : World → Value → β → Prop) (w : World) (vs : List Value) (ys : List β) : Prop := vs.length = ys.length ∧ ∀ i v, vs[i]? = some v → Rep w v (ys.getD i d)
def RetRep {β : Type} (Rep : World → Value → β → Prop) (y : β) (w0 : World) (e : Ending) (w' : World) : Prop := ∃ v, e = .returned v ∧ Rep w' v y ∧ Below w0.heap.size w0 w'
def RetReps {β : Type} (d : β) (E : TypeId) (Rep : World → Value → β → Prop) (ys : List β) (w0 : World) (e : Ending) (w' : World) : Prop :=
  ∃ A c vs, e = .returned (.slice A ys.length c) ∧ w'.ownsRow w0.heap.size E 1 (.slice A ys.length c) ys.length (vs.flatMap encV) ∧ Reps d Rep w' vs ys ∧ Below w0.heap.size w0 w'
section
variable {β : Type} {d : β} {E : TypeId} {Rep : World → Value → β → Prop} {w w' : World} {vs : List Value} {ys : List β}
theorem Reps.next (h : Reps d Rep w vs ys) (RO : RepOk E Rep) (hb : Below w.heap.size w w') : Reps d Rep w' vs ys := ⟨h.1, fun i v hv => RO.next (h.2 i v hv) hb⟩
theorem Reps.at_ (h : Reps d Rep w vs ys) (u : Value) {i : Nat} (hi : i < vs.length) : Rep w (vs.getD i u) (ys.getD i d) := by
  refine h.2 i _ ?_
  rw [List.getD_eq_getElem?_getD, List.getElem?_eq_getElem hi]; rfl
theorem rep_row (RO : RepOk E Rep) {base n c : Nat} {A : Option Addr} {xs : List Value} {v : Value} {y : β} (hO : w.ownsRow base E 1 (.slice A n c) n xs) (h : Rep w v y) (o : Obj) (hg : (w.alloc o).grownBy w' (Value.slice A n c).ownBlock) : Rep w' v y := by
  have h1 : Rep (w.alloc o) v y := RO.next h ((Below.refl _ _).alloc (Nat.le_refl _) o)
  have hO1 := hO.alloc o
  rcases hO1.2 with ⟨hn, _⟩ | ⟨g, cap, cur, hv, _, hh, _⟩
  · rw [hn] at hg
    exact RO.next h1 ⟨hg.os, hg.tape, hg.output, hg.size, fun k hk => hg.block k hk (by simp [Value.ownBlock])⟩
  · rw [hv] at hg
    exact RO.grown h1 (show Blk (w.alloc o) g E cur from hh) hg
theorem Reps.push (h : Reps d Rep w vs ys) (RO : RepOk E Rep) {base n c : Nat} {A : Option Addr} {xs : List Value} {v : Value} {y : β} (hO : w.ownsRow base E 1 (.slice A n c) n xs) (hv : Rep w v y) (o : Obj) (hg : (w.alloc o).grownBy w' (Value.slice A n c).ownBlock) :
    Reps d Rep w' (vs ++ [v]) (ys ++ [y]) := by
  refine ⟨by simp [h.1], fun i u hu => ?_⟩
  by_cases hi : i < vs.length
  · rw [List.getElem?_append_left hi] at hu
    rw [List.getD_eq_getElem?_getD, List.getElem?_append_left (by rw [← h.1]; exact hi), ← List.getD_eq_getElem?_getD]
    exact rep_row RO hO (h.2 i u hu) o hg
  · have hi2 : i = vs.length := by
      have := (List.getElem?_eq_some_iff.1 hu).1
      simp at this; omega
    subst hi2
    rw [List.getElem?_append_right (by omega)] at hu
    obtain rfl : v = u := by simpa using hu
    rw [List.getD_eq_getElem?_getD, List.getElem?_append_right (by rw [h.1]; omega), h.1]
    simpa using rep_row RO hO hv o hg
end
/-- a new slice of numbers -/
def RepI (w : World) (v : Value) (y : List Int) : Prop := ∃ g c cs, v = .slice (some ⟨g, 0, none⟩) y.length c ∧ Blk w g 2 cs ∧ ∀ j, j < y.length → cs[j]? = some (.int .i64 (y.getD j 0))
theorem RepI.rd {w : World} {A : Option Addr} {n c : Nat} {y : List Int} (h : RepI w (.slice A n c) y) : n = y.length ∧ Rd w w.heap.size A n 1 intE y := by
  obtain ⟨g, c', cs, e, hB, hc⟩ := h
  injection e with e1 e2 e3
  subst e1 e2 e3
  refine ⟨rfl, rfl, fun _ => ⟨g, 0, rfl, hB.lt, fun k x hx j v hv => ?_⟩⟩
  have hk : k < y.length := (List.getElem?_eq_some_iff.1 hx).1
  match j with
  | 0 =>
    obtain rfl : v = .int .i64 x := by simpa [intE] using hv.symm
    have := hc k hk
    rw [List.getD_eq_getElem?_getD, hx] at this
    rw [hB.cell]
    simpa using this
  | j + 1 => simp [intE] at hv
theorem RepI.of_own {w : World} {base c : Nat} {A : Option Addr} {y : List Int} (hy : 0 < y.length) (h : w.ownsRow base 2 1 (.slice A y.length c) y.length (y.flatMap intE)) : RepI w (.slice A y.length c) y := by
  rcases h.2 with ⟨_, h0⟩ | ⟨g, cap, cur, hv, _, hh, _⟩
  · omega
  · injection hv with e1 _ e3
    subst e1 e3
    refine ⟨g, _, cur, rfl, hh, fun j hj => ?_⟩
    have h1 := h.cellAt j (by omega)
    have hB : Blk w g 2 cur := hh
    rw [hB.cell j] at h1
    rw [h1]
    have hx : y[j]? = some (y[j]'hj) := List.getElem?_eq_getElem _
    have h2 := flat_at (enc := intE) (sz := 1) y (fun _ _ => rfl) j _ hx 0 (by omega)
    rw [Nat.mul_one, Nat.add_zero] at h2
    rw [h2, List.getD_eq_getElem?_getD, hx]; rfl
theorem repI_ok {E : TypeId} (hE : E ≠ 2) : RepOk E RepI := by
  refine ⟨fun {w w' v y} h hb => ?_, fun {w w' v y g cs} h hB hg => ?_, fun {w v y} h => ?_⟩
  · obtain ⟨g, c, cs, e, hB, hc⟩ := h
    exact ⟨g, c, cs, e, hB.next hb, hc⟩
  · obtain ⟨g', c, cs', e, hB', hc⟩ := h
    refine ⟨g', c, cs', e, hB'.grown hg (fun e => ?_), hc⟩
    injection e with e
    subst e
    unfold Blk at hB hB'
    rw [hB] at hB'
    injection hB' with q
    injection q with _ q
    exact hE q
  · obtain ⟨g, c, cs, e, _⟩ := h
    exact ⟨_, _, _, e⟩
end Go.Proofs.Ytecnkmndmnefdaa


/-
  impl.folded at []int64: what it makes of a grammar, by the contracts of the two functions that it is handed; each value refers to memory of its own.
-/
namespace Go.Proofs.Ytecnkmndmnefdaa
open Go.RowKit

theorem elemV : Elem Try.prog 75 32 1 24 := Elem.mk' (z := .slice none 0 0) Try.underlying75 (by kernel_rfl) rfl
set_option maxHeartbeats 2000000 in
set_option maxRecDepth 100000 in
theorem foldV_any {β : Type} (d : β) (Rep : World → Value → β → Prop) (RO : RepOk 32 Rep) (fl fp : Nat) (el : EnterOk fl) (ep : EnterOk fp) (cl cp : Array Value) (F : Nat → β) (G : β → β → Fac → β) (z : β) (vz : Value) (A : Option Addr) (n c : Nat) (rs : List Fac) (w : World) (hn : n ≤ 1048576)
    (hr : Rd w w.heap.size A n 3 Fac.cells rs) (hwf : WF rs) (hz : Rep w vz z)
    (hF : ∀ (k : Nat) (r : Fac), rs[k]? = some r → r.l.size ≠ 0 → ∀ w', Below w.heap.size w w' → Calls Try.prog fl (#[.int .i64 (letN r.l : Nat)] ++ cl) w' (RetRep Rep (F (letN r.l)) w'))
    (hG : ∀ (k : Nat) (r : Fac), rs[k]? = some r → r.l.size = 0 → ∀ w' va vb, Below w.heap.size w w' → Rep w' va ((outs d F G rs k).getD r.a.toNat d) → Rep w' vb ((outs d F G rs k).getD r.b.toNat d) →
      Calls Try.prog fp (#[va, vb, r.val] ++ cp) w' (RetRep Rep (G ((outs d F G rs k).getD r.a.toNat d) ((outs d F G rs k).getD r.b.toNat d) r) w')) :
    Calls Try.prog 70 #[.agg #[.slice A n c], vz, .func (.func fl) #[] cl, .func (.func fp) #[] cp] w (RetReps d 32 Rep (foldAll d F G z rs) w) := by
  have hl := Lib.hid hr.len
  have HF := Lib.hid hF; clear hF
  have HZ := Lib.hid hz; clear hz
  unfold EnterOk at el ep
  have HG := Lib.hid hG; clear hG
  have HW := Lib.hid hwf; clear hwf
  go_enter Try.func70, Try.ntmps70
  go_wp2_with fail
  go_loopw [9, 16] (fun o_ i_ w' => ∃ (k : Nat) (A' : Option Addr) (c' : Nat) (vs : List Value), i_ = .int .i64 k ∧ o_ = .slice A' k c' ∧ k ≤ n ∧
      Hid (w'.ownsRow w.heap.size 32 1 (.slice A' k c') k (vs.flatMap encV)) ∧ Hid (Reps d Rep w' vs (outs d F G rs k)) ∧ Below w.heap.size w w') (fun _ i_ _ => n - (intOf i_).toNat)
  case atStart =>
    exact ⟨0, _, 0, [], rfl, rfl, by omega, Lib.hid (by simpa using World.ownsRow_made (base := w.heap.size) (e := 32) (size := 1) (w.alloc (.cells #[.slice A n c] 26)) #[] 0 (by simp) (by unfold maxLen; omega) rfl), Lib.hid ⟨by simp [outs, foldG], by simp⟩, by (repeat first | exact Below.refl _ _ | assumption | refine Below.drew ?_ | refine Below.alloc ?_ (by first | exact Nat.le_refl _ | (simp; done) | omega | (simp; omega)) _ | refine Below.setCell ?_ (by first | exact Nat.le_refl _ | (simp; done) | omega | (simp; omega)) _)⟩
  case round =>
    obtain ⟨k, A', c', vs, rfl, rfl, hk, hown, hrep, hb⟩ := hrel
    by_cases hlt : k < n
    · obtain ⟨b, o, x, rfl, hB, gx, c0, c1, c2⟩ := (hr.next hb).fac hlt
      have Hst := Lib.hid (outs_step d F G gx)
      have Hol := Lib.hid (outs_len d F G rs k (by rw [hl.out]; exact hk))
      have Hvl := Lib.hid (hrep.out.1.trans Hol.out)
      rcases HW.out k x gx with ⟨h0, ha0, ha1, hb0, hb1⟩ | ⟨cc, hcc, hxl, hxa, hxb⟩
      · have hG := HG.out k x gx h0
        have hfs := Lib.hid (show fStep d F G (outs d F G rs k) x = G ((outs d F G rs k).getD x.a.toNat d) ((outs d F G rs k).getD x.b.toNat d) x by unfold fStep; rw [if_pos h0])
        have HG2 := Lib.hid hG; clear hG gx
        go_wp2_with fail
        refine (isPair_any x true _ (by simpa [isP] using h0)).mono ?_
        rintro e w1 ⟨rfl, hb1'⟩
        obtain ⟨d0, d1, d2⟩ := ((Blk.new wr _ _).next hb1').three
        have b1 := (hb.alloc hb.size _).trans (hb1'.mono (by have := hb.size; simp; omega))
        have hz1 : wr.heap.size < w1.heap.size := ((Blk.new wr 69 #[.string x.l, .int .i64 x.a, .int .i64 x.b]).next hb1').lt
        have own1 := Lib.hid (own_next (hown.out.alloc _) hb1')
        have rep1 := Lib.hid (hrep.out.next RO (((Below.refl wr.heap.size wr).alloc (Nat.le_refl _) (.cells #[.string x.l, .int .i64 x.a, .int .i64 x.b] 69)).trans (hb1'.mono (by simp))))
        obtain ⟨g, cap, hv, hg0, hg1⟩ := own1.out.form (by omega)
        obtain rfl : A' = some ⟨g, 0, none⟩ := by injection hv
        clear hv
        have na : x.a.toNat < k := by omega
        have nb : x.b.toNat < k := by omega
        have HE1 := Lib.hid (fun (w' : World) (h : w'.ownsRow w.heap.size 32 1 (.slice (some ⟨g, 0, none⟩) k c') k (vs.flatMap encV)) =>
          show w'.cell? ⟨g, x.a.toNat, none⟩ = some (vs.getD x.a.toNat undef) by simpa [encV] using own_at (enc := encV) (sz := 1) (fun _ _ => rfl) h Hvl.out undef x.a.toNat na 0 Nat.zero_lt_one)
        have HE2 := Lib.hid (fun (w' : World) (h : w'.ownsRow w.heap.size 32 1 (.slice (some ⟨g, 0, none⟩) k c') k (vs.flatMap encV)) =>
          show w'.cell? ⟨g, x.b.toNat, none⟩ = some (vs.getD x.b.toNat undef) by simpa [encV] using own_at (enc := encV) (sz := 1) (fun _ _ => rfl) h Hvl.out undef x.b.toNat nb 0 Nat.zero_lt_one)
        have e1 := HE1.out w1 own1.out
        have e2 := HE2.out w1 own1.out
        have r1 := rep1.out.at_ undef (show x.a.toNat < vs.length by rw [Hvl.out]; exact na)
        have r2 := rep1.out.at_ undef (show x.b.toNat < vs.length by rw [Hvl.out]; exact nb)
        have o1 := RO.one r1
        have o2 := RO.one r2
        have R1 := Lib.hid r1; have R2 := Lib.hid r2; clear r1 r2
        generalize vs.getD x.a.toNat undef = v1 at *
        generalize vs.getD x.b.toNat undef = v2 at *
        have hgw : some wr.heap.size ≠ (Value.slice (some ⟨g, 0, none⟩) k c').ownBlock := by intro e; have h1 : g < wr.heap.size := (hown.out.lt g rfl).2; have h2 : wr.heap.size = g := Option.some.inj e; omega
        clear h0
        have i1 : x.a < (k : Int) := ha1
        have i2 : x.b < (k : Int) := hb1
        obtain ⟨s1, sn1, sc1, rfl⟩ := RO.sl R1.out
        obtain ⟨s2, sn2, sc2, rfl⟩ := RO.sl R2.out
        clear o1 o2
        go_wp2_with fail
        go_region_held3 (fun w' => w'.cell? ⟨wr.heap.size, 0, none⟩ = some (.string x.l) ∧ w'.cell? ⟨wr.heap.size, 1, none⟩ = some (.int .i64 x.a) ∧ w'.cell? ⟨wr.heap.size, 2, none⟩ = some (.int .i64 x.b) ∧ w'.cell? ⟨g, x.a.toNat, none⟩ = some (.slice s1 sn1 sc1) ∧ w'.cell? ⟨g, x.b.toNat, none⟩ = some (.slice s2 sn2 sc2))
          (first | exact ⟨t0, t1, t2, t3, t4⟩ | exact ⟨s0, s1', s2', s3, s4⟩ | go_keep)
          (first
            | (refine (HG2.out _ _ _ b1.drew (RO.next R1.out (Below.refl _ _).drew) (RO.next R2.out (Below.refl _ _).drew)).mono ?_
               rintro e w2 ⟨v3, rfl, rep3, hb2⟩
               obtain ⟨p3, n3, c3, rfl⟩ := RO.sl rep3
               have Rep3 := Lib.hid rep3; clear rep3
               have hz2 : wr.heap.size < w2.heap.size := Nat.lt_of_lt_of_le hz1 hb2.size
               have s0 : w2.cell? ⟨wr.heap.size, 0, none⟩ = some (.string x.l) := (hb2.cell (p := ⟨wr.heap.size, 0, none⟩) hz1).trans d0
               have s1' : w2.cell? ⟨wr.heap.size, 1, none⟩ = some (.int .i64 x.a) := (hb2.cell (p := ⟨wr.heap.size, 1, none⟩) hz1).trans d1
               have s2' : w2.cell? ⟨wr.heap.size, 2, none⟩ = some (.int .i64 x.b) := (hb2.cell (p := ⟨wr.heap.size, 2, none⟩) hz1).trans d2
               have s3 : w2.cell? ⟨g, x.a.toNat, none⟩ = some (.slice s1 sn1 sc1) := (hb2.cell (p := ⟨g, x.a.toNat, none⟩) hg1).trans e1
               have s4 : w2.cell? ⟨g, x.b.toNat, none⟩ = some (.slice s2 sn2 sc2) := (hb2.cell (p := ⟨g, x.b.toNat, none⟩) hg1).trans e2)
            | (refine step_push (by rfl) _ _ _ (by rfl) w.heap.size 32 1 24 elemV encV (some ⟨g, 0, none⟩) k c' vs (by rfl) ((own_next own1.out.drew hb2).alloc _) w2.heap.size (.slice p3 n3 c3) #[.slice p3 n3 c3] 32 (0, 0) (by rfl) (heap_alloc_new _ _) rfl rfl (by simp [encV, Value.oneCell']) (by omega) (by omega) (by unfold maxLen; omega) (Nat.le_trans b1.size (Nat.le_trans hb2.size (by simp))) ?_
               intro A5 c5 w5 own5 hg5 old5
               have t0 : w5.cell? ⟨wr.heap.size, 0, none⟩ = some (.string x.l) := far_alloc hg5 s0 hz2 hgw
               have t1 : w5.cell? ⟨wr.heap.size, 1, none⟩ = some (.int .i64 x.a) := far_alloc hg5 s1' hz2 hgw
               have t2 : w5.cell? ⟨wr.heap.size, 2, none⟩ = some (.int .i64 x.b) := far_alloc hg5 s2' hz2 hgw
               have t3 : w5.cell? ⟨g, x.a.toNat, none⟩ = some (.slice s1 sn1 sc1) := HE1.out w5 old5
               have t4 : w5.cell? ⟨g, x.b.toNat, none⟩ = some (.slice s2 sn2 sc2) := HE2.out w5 old5))
        go_wp2_with fail
        have hb12 := Lib.hid ((Below.refl w1.heap.size w1).drew.trans hb2)
        have own2 := Lib.hid (own_next own1.out hb12.out)
        have Own5 := Lib.hid own5
        go_roundw
        case rel =>
          refine ⟨k + 1, A5, c5, vs ++ [.slice p3 n3 c3], by go_num, rfl, by omega, Own5, Lib.hid ?_, ?_⟩
          · rw [Hst.out, hfs.out]
            exact (rep1.out.next RO hb12.out).push RO own2.out Rep3.out (.cells #[.slice p3 n3 c3] 32) hg5
          · exact ((b1.drew.trans (hb2.mono b1.size)).alloc (Nat.le_trans b1.size hb2.size) _).grown hg5 (Nat.le_trans b1.size (Nat.le_trans hb2.size (by simp))) (own_ge own1.out)
        case measure => simp [intOf]; omega
      · obtain ⟨xl, xa, xb⟩ := x
        simp only at hxl hxa hxb c0 c1 c2
        subst hxl hxa hxb
        obtain ⟨hl0, hl1⟩ := letB_num hcc
        have hF := HF.out k _ gx (by show (1 : Nat) ≠ 0; omega)
        have hfs := Lib.hid (show fStep d F G (outs d F G rs k) ⟨⟨#[cc]⟩, 0, 0⟩ = F (letN ⟨#[cc]⟩) from rfl)
        have hln := Lib.hid (show ((letN ⟨#[cc]⟩ : Nat) : Int) = (cc.toNat : Int) - 97 by rw [letN_one]; omega)
        simp only at hF
        rw [hln.out] at hF
        generalize F (letN ⟨#[cc]⟩) = y at *
        have HF2 := Lib.hid hF; clear hF gx hcc
        go_wp2_with fail
        refine (isPair_any ⟨⟨#[cc]⟩, 0, 0⟩ false _ (decide_eq_false (show ¬ (1 : Nat) = 0 by omega))).mono ?_
        rintro e w1 ⟨rfl, hb1'⟩
        obtain ⟨d0, d1, d2⟩ := ((Blk.new wr _ _).next hb1').three
        have b1 := (hb.alloc hb.size _).trans (hb1'.mono (by have := hb.size; simp; omega))
        have own1 := Lib.hid (own_next (hown.out.alloc _) hb1')
        have rep1 := Lib.hid (hrep.out.next RO (((Below.refl wr.heap.size wr).alloc (Nat.le_refl _) (.cells #[.string ⟨#[cc]⟩, .int .i64 0, .int .i64 0] 69)).trans (hb1'.mono (by simp))))
        go_wp2_with fail
        refine calls_arg (b := (cc.toNat : Int) - 97) (by show ((cc.toNat : Int) - 97) % 256 = _; omega) ?_
        refine (HF2.out _ b1).mono ?_
        rintro e w2 ⟨v3, rfl, rep3, hb2⟩
        obtain ⟨p3, n3, c3, rfl⟩ := RO.sl rep3
        have Rep3 := Lib.hid rep3; clear rep3
        have b2 := b1.trans (hb2.mono b1.size)
        have own2 := Lib.hid (own_next own1.out hb2)
        have rep2 := Lib.hid (rep1.out.next RO hb2)
        go_wp2_with
          (at_builtin
           refine wpList_push (w0 := w) rfl _ _ _ rfl w.heap.size 32 1 24 elemV encV _ k c' vs rfl (own2.out.alloc _) w2.heap.size (.slice p3 n3 c3) #[.slice p3 n3 c3] 32 (0, 0) rfl (heap_alloc_new _ _) rfl rfl (by simp [encV, Value.oneCell']) (by omega) (by omega) (by unfold maxLen; omega) rfl (b2.alloc b2.size _) ?_
           intro A9 c9 w9 own9 hg9 hat9 hb9
           have O9 := Lib.hid own9
           have G9 := Lib.hid hg9
           clear own9 hg9 hat9)
        go_roundw
        case rel =>
          refine ⟨k + 1, A9, c9, vs ++ [.slice p3 n3 c3], by go_num, rfl, by omega, O9, Lib.hid ?_, hb9⟩
          rw [Hst.out, hfs.out]
          exact rep2.out.push RO own2.out Rep3.out _ G9.out
        case measure => simp [intOf]; omega
    · have hkn : k = n := by omega
      have Hall := Lib.hid (outs_all d F G rs k (by rw [hl.out]; omega))
      have Hol := Lib.hid (outs_len d F G rs k (by rw [hl.out]; omega))
      by_cases h0 : k = 0
      · subst h0
        have e0 := Lib.hid (show foldAll d F G z rs = [z] by unfold foldAll; rw [hl.out, if_pos hkn.symm])
        have e1 := Lib.hid (show outs d F G rs 0 = [] by unfold outs; simp [foldG])
        have hvn : vs = [] := List.eq_nil_of_length_eq_zero (hrep.out.1.trans Hol.out)
        subst hvn
        have Hz := Lib.hid (RO.next' HZ.out hb)
        obtain ⟨p3, n3, c3, rfl⟩ := RO.sl HZ.out
        clear hkn
        go_wp2_with
          (at_builtin
           refine wpList_push (w0 := w) rfl _ _ _ rfl w.heap.size 32 1 24 elemV encV _ 0 c' [] rfl (hown.out.alloc _) wr.heap.size (.slice p3 n3 c3) #[.slice p3 n3 c3] 32 (0, 0) rfl (heap_alloc_new _ _) rfl rfl (by simp [encV, Value.oneCell']) (by omega) (by omega) (by unfold maxLen; omega) rfl (hb.alloc hb.size _) ?_
           intro A9 c9 w9 own9 hg9 hat9 hb9
           have O9 := Lib.hid own9
           have G9 := Lib.hid hg9
           clear own9 hg9 hat9)
        go_ret
        rw [e0.out]
        refine ⟨A9, c9, [.slice p3 n3 c3], rfl, O9.out, ?_, hb9⟩
        have hr0 : Reps d Rep wr [] [] := ⟨rfl, by simp⟩
        simpa using hr0.push RO hown.out Hz.out _ G9.out
      · have e0 := Lib.hid (show foldAll d F G z rs = outs d F G rs k by unfold foldAll; rw [hl.out, if_neg (by omega), Hall.out])
        have h1 : ((k : Int) == 0) = false := by simp; omega
        clear h0 hkn
        go_wp2_with fail
        go_ret
        rw [e0.out]
        refine ⟨A', c', vs, ret_slice Hol.out.symm, ?_, hrep.out, hb⟩
        rw [Hol.out]
        exact hown.out
end Go.Proofs.Ytecnkmndmnefdaa


/-
  How often a word is scattered, one behind the other: in the program.
-/
namespace Go.Proofs.Ytecnkmndmnefdaa
open Go.RowKit

def spI (p : ByteArray) (l i : Nat) : Int := if (p.data.toList.getD i 0).toNat - 97 = l then 1 else 0
def spF (p : ByteArray) (l : Nat) : List Int := (List.range p.size).map (spI p l)
def spJ (n : Nat) (x y : List Int) (i : Nat) : Int := x.getD i 0 + y.getD (((i : Int) + x.getD i 0) % (n : Int)).toNat 0
def spG (n : Nat) (x y : List Int) (_ : Fac) : List Int := (List.range n).map (spJ n x y)
abbrev spAll (p : ByteArray) (rs : List Fac) : List (List Int) := full [] (spF p) (spG p.size) rs
def SB (n : Nat) (m : Int) (x : List Int) : Prop := x.length = n ∧ ∀ i, i < n → 0 ≤ x.getD i 0 ∧ x.getD i 0 ≤ m
theorem rng_len {α : Type} (f : Nat → α) (n : Nat) : ((List.range n).map f).length = n := by simp
theorem rng_at (f : Nat → Int) {n i : Nat} (h : i < n) : ((List.range n).map f).getD i 0 = f i := by
  rw [List.getD_eq_getElem?_getD, List.getElem?_map, List.getElem?_range h]; rfl
theorem rng_succ {α : Type} (f : Nat → α) (n : Nat) : (List.range (n + 1)).map f = (List.range n).map f ++ [f n] := by rw [List.range_succ, List.map_append]; rfl
theorem spI_b (p : ByteArray) (l i : Nat) : 0 ≤ spI p l i ∧ spI p l i ≤ 1 := by unfold spI; split <;> omega
theorem sp_mod {n : Nat} (h0 : 0 < n) {i : Nat} {a : Int} : 0 ≤ ((i : Int) + a) % (n : Int) ∧ ((i : Int) + a) % (n : Int) < n := ⟨Int.emod_nonneg _ (by omega), Int.emod_lt_of_pos _ (by omega)⟩
theorem sp_bound {p : ByteArray} {rs : List Fac} {ls : List Int} (hls : gLens rs [] = some ls) (h0 : 0 < p.size) {k : Nat} (hk : k < rs.length) : SB p.size (ls.getD k 0) ((spAll p rs).getD k []) := by
  refine full_ind [] (spF p) (spG p.size) (wf_of hls) (fun k x => SB p.size (ls.getD k 0) x) (fun k r hr h => ?_) (fun k r a b hr h0' h1 h2 h3 h4 ha hb => ?_) k hk
  · have hn : r.l.size ≠ 0 := by
      obtain ⟨c, _, e⟩ := letT_one h
      rw [e]; show (1 : Nat) ≠ 0; omega
    show SB p.size (ls.getD k 0) (spF p _)
    rw [lens_let hls hr hn]
    refine ⟨rng_len _ _, fun i hi => ?_⟩
    unfold spF
    rw [rng_at _ hi]
    exact spI_b _ _ _
  · show SB p.size (ls.getD k 0) (spG p.size a b r)
    rw [lens_pair hls hr h0']
    refine ⟨rng_len _ _, fun i hi => ?_⟩
    unfold spG
    rw [rng_at _ hi]
    have q1 := ha.2 i hi
    have q2 := sp_mod h0 (i := i) (a := a.getD i 0)
    have q3 := hb.2 (((i : Int) + a.getD i 0) % (p.size : Int)).toNat (by omega)
    unfold spJ
    omega
theorem sp_b15 {p : ByteArray} {rs : List Fac} {ls : List Int} (hls : gLens rs [] = some ls) (h0 : 0 < p.size) {k : Nat} (hk : k < rs.length) : SB p.size 1000000000000000 ((spAll p rs).getD k []) := by
  have h := sp_bound hls h0 hk
  have h2 := lens_bound hls hk
  exact ⟨h.1, fun i hi => by have := h.2 i hi; omega⟩

set_option maxHeartbeats 1000000 in
set_option maxRecDepth 100000 in
theorem sp1_any (l nb pb : Nat) (p : ByteArray) (w : World) (hnb : nb < w.heap.size) (hpb : pb < w.heap.size) (dn : w.cell? ⟨nb, 0, none⟩ = some (.int .i64 (p.size : Int))) (dp : w.cell? ⟨pb, 0, none⟩ = some (.string p)) (hp : okW p = true) (hl : l < 4) :
    Calls Try.prog 71 #[.int .i64 (l : Int), .pointer (some ⟨nb, 0, none⟩), .pointer (some ⟨pb, 0, none⟩)] w (RetRep RepI (spF p l) w) := by
  obtain ⟨i0, hi, hz0, hz1, hz2⟩ := info_parts info_i64
  have hps := (okW_b hp).1
  have HP := Lib.hid (okW_b hp).2; clear hp
  have hmk := run_make_rowN (P := Try.prog) 32 2 i0 _ Try.underlying32 hi hz0 .i64 .i64 p.size p.size (Nat.le_refl _) (by rw [hz2]; omega) (by omega)
  rw [hz1] at hmk
  go_enter Try.func71, Try.ntmps71
  go_wp2_with fail
  go_loopw [11] (fun i_ w' => ∃ (k : Nat) (cs : Array Value), i_ = .int .i64 k ∧ k ≤ p.size ∧ Below w.heap.size w w' ∧ Hid (Blk w' w.heap.size 2 cs) ∧ Hid (cs.size = p.size) ∧
      Hid (∀ j, j < p.size → cs[j]? = some (.int .i64 (if j < k then spI p l j else 0)))) (fun i_ _ => p.size - (intOf i_).toNat)
  case atStart =>
    refine ⟨0, _, rfl, by omega, (Below.refl _ _).alloc (Nat.le_refl _) _, Lib.hid (Blk.new _ _ _), Lib.hid (by rw [size_madeCells]), Lib.hid (fun j hj => ?_)⟩
    rw [if_neg (by omega)]
    simpa [Value.cells] using made_at hj
  case round =>
    obtain ⟨k, cs, rfl, hk, hb, hB, hs, hc⟩ := hrel
    have en := (hb.cell (p := ⟨nb, 0, none⟩) hnb).trans dn
    have ep := (hb.cell (p := ⟨pb, 0, none⟩) hpb).trans dp
    have ln : nb < wr.heap.size := by have := hb.size; omega
    have lp : pb < wr.heap.size := by have := hb.size; omega
    by_cases hlt : k < p.size
    · obtain ⟨k0, k1⟩ := letB_num (HP.out k hlt)
      have v1 : IntKind.u8.wrap (((p[k]'hlt).toNat : Int) - 97) = (((p[k]'hlt).toNat - 97 : Nat) : Int) := by show (((p[k]'hlt).toNat : Int) - 97) % 256 = _; omega
      have hsz := hB.out.lt
      have s0 : wr.cell? ⟨w.heap.size, k, none⟩ = some (.int .i64 0) := (hB.out.cell k).trans ((hc.out k hlt).trans (by rw [if_neg (by omega)]))
      have f0 := hB.out.frozen
      have eI := Lib.hid (show spI p l k = if (p[k]'hlt).toNat - 97 = l then 1 else 0 by unfold spI; rw [List.getD_eq_getElem?_getD, at_byte p k hlt]; rfl)
      have hnx := Lib.hid (fun (v : Int) (hv : spI p l k = v) => fillc (f := spI p l) hs.out hlt hc.out v hv)
      generalize hq : (p[k]'hlt).toNat - 97 = q at *
      have hq3 : (q : Int) ≤ 3 := by omega
      clear hq
      by_cases he : q = l
      · rw [if_pos he] at eI
        have hN := Lib.hid (hnx.out 1 eI.out)
        have he1 : ((q : Int) == (l : Int)) = true := by simp; omega
        clear he hnx
        go_wp2_with fail
        go_roundw
        case rel => exact ⟨k + 1, _, by go_num, by omega, hb.setCell (Nat.le_refl _) _, Lib.hid (hB.out.set_ _ _), Lib.hid hN.out.1, Lib.hid hN.out.2⟩
        case measure => simp [intOf]; omega
      · rw [if_neg he] at eI
        have hN := Lib.hid (keepc (f := spI p l) hlt hc.out eI.out)
        have he1 : ((q : Int) == (l : Int)) = false := by simp; omega
        clear he hnx
        go_wp2_with fail
        go_roundw
        case rel => exact ⟨k + 1, cs, by go_num, by omega, hb, hB, hs, hN⟩
        case measure => simp [intOf]; omega
    · have hlen := Lib.hid (show (spF p l).length = p.size from rng_len _ _)
      go_wp2_with fail
      go_ret
      refine ⟨.slice (some ⟨w.heap.size, 0, none⟩) p.size p.size, rfl, ⟨w.heap.size, p.size, cs, by rw [hlen.out], hB.out, fun j hj => ?_⟩, hb⟩
      rw [hlen.out] at hj
      rw [hc.out j hj, if_pos (by omega)]
      unfold spF
      rw [rng_at _ hj]
set_option maxHeartbeats 1000000 in
set_option maxRecDepth 100000 in
theorem sp2_any (x y : List Int) (vx vy : Value) (r : Fac) (nb n : Nat) (w : World) (hnb : nb < w.heap.size) (dn : w.cell? ⟨nb, 0, none⟩ = some (.int .i64 (n : Int))) (h0 : 0 < n) (hn : n ≤ 2000)
    (hx : SB n 1000000000000000 x) (hy : SB n 1000000000000000 y) (rx : RepI w vx x) (ry : RepI w vy y) :
    Calls Try.prog 72 #[vx, vy, r.val, .pointer (some ⟨nb, 0, none⟩)] w (RetRep RepI (spG n x y r) w) := by
  obtain ⟨hxl, hxb⟩ := hx
  obtain ⟨hyl, hyb⟩ := hy
  obtain ⟨A1, n1, c1, rfl⟩ := (repI_ok (E := 32) (by decide)).sl rx
  obtain ⟨A2, n2, c2, rfl⟩ := (repI_ok (E := 32) (by decide)).sl ry
  obtain ⟨e1, r1⟩ := rx.rd
  obtain ⟨e2, r2⟩ := ry.rd
  obtain rfl : n1 = n := e1.trans hxl
  obtain rfl : n2 = n1 := e2.trans hyl
  have X := Lib.hid hxb; have Y := Lib.hid hyb
  have R1 := Lib.hid r1; have R2 := Lib.hid r2
  clear rx ry r1 r2 e1 e2 hxb hyb hxl hyl
  unfold Fac.val
  go_enter Try.func72, Try.ntmps72
  go_wp2_with fail
  go_loopw [8, 14] (fun o_ i_ w' => ∃ (k : Nat) (A' : Option Addr) (c' : Nat), i_ = .int .i64 k ∧ o_ = .slice A' k c' ∧ k ≤ n2 ∧ Below w.heap.size w w' ∧
      Hid (w'.ownsRow w.heap.size 2 1 (.slice A' k c') k (((List.range k).map (spJ n2 x y)).flatMap intE))) (fun _ i_ _ => n2 - (intOf i_).toNat)
  case atStart =>
    exact ⟨0, _, 0, rfl, rfl, by omega, by (repeat first | exact Below.refl _ _ | assumption | refine Below.drew ?_ | refine Below.alloc ?_ (by first | exact Nat.le_refl _ | (simp; done) | omega | (simp; omega)) _ | refine Below.setCell ?_ (by first | exact Nat.le_refl _ | (simp; done) | omega | (simp; omega)) _), Lib.hid (by simpa using World.ownsRow_made (base := w.heap.size) (e := 2) (size := 1) (w.alloc (.cells #[.string r.l, .int .i64 r.a, .int .i64 r.b] 69)) #[] 0 (by simp) (by unfold maxLen; omega) rfl)⟩
  case round =>
    obtain ⟨k, A', c', rfl, rfl, hk, hb, hown⟩ := hrel
    have en := (hb.cell (p := ⟨nb, 0, none⟩) hnb).trans dn
    have ln : nb < wr.heap.size := by have := hb.size; omega
    by_cases hlt : k < n2
    · obtain ⟨p1, o1, rfl, hB1, s1⟩ := (R1.out.next hb).n64 (k := k) hlt
      have q1 := X.out k hlt
      have q2 := sp_mod h0 (i := k) (a := x.getD k 0)
      have eJ := Lib.hid (show spJ n2 x y k = x.getD k 0 + y.getD (((k : Int) + x.getD k 0) % (n2 : Int)).toNat 0 from rfl)
      generalize x.getD k 0 = m at *
      have ht : ((k : Int) + m).tmod (n2 : Int) = ((k : Int) + m) % (n2 : Int) := Int.tmod_eq_emod_of_nonneg (by omega)
      obtain ⟨q20, q21⟩ := q2
      obtain ⟨q10, q11⟩ := q1
      have u1 : IntKind.i64.wrap ((k : Int) + m) = (k : Int) + m := IntWalk.i64_in _ (by omega)
      generalize hq : ((k : Int) + m) % (n2 : Int) = q at *
      obtain ⟨p2, o2, rfl, hB2, s2⟩ := (R2.out.next hb).n64 (k := q.toNat) (by omega)
      obtain ⟨q30, q31⟩ := Y.out q.toNat (by omega)
      generalize y.getD q.toNat 0 = z at *
      go_wp2_with
        (at_builtin
         refine wpList_push (w0 := w) rfl _ _ _ rfl w.heap.size 2 1 8 elem_int intE _ k c' ((List.range k).map (spJ n2 x y)) rfl (hown.out.alloc _) wr.heap.size (m + z) #[.int .i64 (m + z)] 2 (0, 0) rfl (heap_alloc_new _ _) rfl rfl (by simp [intE, Value.oneCell']) (by omega) (by omega) (by unfold maxLen; omega) rfl (hb.alloc hb.size _) ?_
         intro A9 c9 w9 own9 hg9 hat9 hb9
         have O9 := Lib.hid own9
         clear own9 hg9 hat9)
      go_roundw
      case rel =>
        refine ⟨k + 1, A9, c9, by go_num, rfl, by omega, hb9, Lib.hid ?_⟩
        rw [rng_succ, eJ.out]
        exact O9.out
      case measure => simp [intOf]; omega
    · obtain rfl : k = n2 := by omega
      have hlen := Lib.hid (show (spG k x y r).length = k from rng_len _ _)
      go_wp2_with fail
      go_ret
      refine ⟨.slice A' k c', rfl, ?_, hb⟩
      have := RepI.of_own (w := wr) (base := w.heap.size) (A := A') (c := c') (y := spG k x y r) (by rw [hlen.out]; exact h0) (by rw [hlen.out]; exact hown.out)
      rw [hlen.out] at this
      exact this
def spTop (rs : List Fac) (p : ByteArray) : Int := if rs.length = 0 then 0 else ((spAll p rs).getD (rs.length - 1) []).getD 0 0
def spareV (rs : List Fac) (p : ByteArray) : Value :=
  if (gOk rs).isSome = false then tup2 0 1 else if okW p = false then tup2 0 1 else if p.size = 0 then tup2 0 4 else tup2 (spTop rs p / (p.size : Int)) 0
theorem spareV_form (rs : List Fac) (p : ByteArray) : ∃ b k, spareV rs p = .tuple #[.int .i64 b, .int .i64 k] := by
  unfold spareV
  split
  · exact ⟨_, _, rfl⟩
  split
  · exact ⟨_, _, rfl⟩
  split
  · exact ⟨_, _, rfl⟩
  · exact ⟨_, _, rfl⟩
theorem spareV1 {rs : List Fac} {p : ByteArray} (h : (gOk rs).isSome = false) : spareV rs p = tup2 0 1 := by unfold spareV; rw [if_pos h]
theorem spareV2 {rs : List Fac} {p : ByteArray} (h : (gOk rs).isSome = true) (h2 : okW p = false) : spareV rs p = tup2 0 1 := by unfold spareV; rw [if_neg (by rw [h]; decide), if_pos h2]
theorem spareV3 {rs : List Fac} {p : ByteArray} (h : (gOk rs).isSome = true) (h2 : okW p = true) (h3 : p.size = 0) : spareV rs p = tup2 0 4 := by unfold spareV; rw [if_neg (by rw [h]; decide), if_neg (by rw [h2]; decide), if_pos h3]
theorem spareV4 {rs : List Fac} {p : ByteArray} (h : (gOk rs).isSome = true) (h2 : okW p = true) (h3 : p.size ≠ 0) : spareV rs p = tup2 (spTop rs p / (p.size : Int)) 0 := by
  unfold spareV; rw [if_neg (by rw [h]; decide), if_neg (by rw [h2]; decide), if_neg h3]
def zerosI (n : Nat) : List Int := (List.range n).map fun _ => 0
theorem spTop_eq (rs : List Fac) (p : ByteArray) (h0 : p.size ≠ 0) : ((foldAll [] (spF p) (spG p.size) (zerosI p.size) rs).getD ((foldAll [] (spF p) (spG p.size) (zerosI p.size) rs).length - 1) []).getD 0 0 = spTop rs p := by
  rw [foldAll_top]
  unfold spTop
  split
  · exact rng_at _ (by omega)
  · rfl
theorem spTop_b {rs : List Fac} {p : ByteArray} {ls : List Int} (hls : gLens rs [] = some ls) (h0 : 0 < p.size) : 0 ≤ spTop rs p ∧ spTop rs p ≤ 1000000000000000 := by
  unfold spTop
  split
  · omega
  · exact (sp_b15 hls h0 (k := rs.length - 1) (by omega)).2 0 h0
theorem foldAll_SB {rs : List Fac} {p : ByteArray} {ls : List Int} (hls : gLens rs [] = some ls) (h0 : 0 < p.size) : ((foldAll [] (spF p) (spG p.size) (zerosI p.size) rs).getD ((foldAll [] (spF p) (spG p.size) (zerosI p.size) rs).length - 1) []).length = p.size := by
  rw [foldAll_top]
  split
  · exact rng_len _ _
  · exact (sp_b15 hls h0 (k := rs.length - 1) (by omega)).1
theorem topV_any (A : Option Addr) (n c : Nat) (v : Value) (w : World) (hn : n ≤ 1048577) (h0 : 0 < n) (b : Nat) (hA : A = some ⟨b, 0, none⟩) (hb : b < w.heap.size) (hc : w.cell? ⟨b, n - 1, none⟩ = some v) (hv : ∃ p m d, v = .slice p m d) :
    Calls Try.prog 73 #[.slice A n c] w (Ret v w) := by
  subst hA
  obtain ⟨p, m, d, rfl⟩ := hv
  go_enter Try.func73, Try.ntmps73
  go_wp2_with fail
  go_ret
  exact ⟨rfl, Below.refl _ _⟩
theorem size_any (s : ByteArray) (w : World) (hs : s.size ≤ 100000000) : Calls Try.prog 69 #[.string s] w (Ret (.int .i64 (s.size : Int)) w) := by
  go_enter Try.func69, Try.ntmps69
  go_wp2
  go_ret
  exact ⟨rfl, Below.refl _ _⟩
theorem repI_zeros (w : World) (n c : Nat) (h : 0 < n) : RepI (w.alloc (.cells (madeCells (Value.int .i64 0).cells (n * 1)) 2)) (.slice (some ⟨w.heap.size, 0, none⟩) n c) (zerosI n) := by
  refine ⟨w.heap.size, c, _, by rw [show (zerosI n).length = n from rng_len _ _], Blk.new _ _ _, fun j hj => ?_⟩
  rw [show (zerosI n).length = n from rng_len _ _] at hj
  rw [made_at hj, show (zerosI n).getD j 0 = 0 from rng_at _ hj]
set_option maxHeartbeats 2000000 in
set_option maxRecDepth 100000 in
theorem implSpare_any (A : Option Addr) (n c : Nat) (rs : List Fac) (s : ByteArray) (w : World) (hn : n ≤ 1048576) (hr : Rd w w.heap.size A n 3 Fac.cells rs) (hok : ∀ f ∈ rs, f.l.size ≤ maxLen) (hs : s.size ≤ maxLen) :
    Calls Try.prog 25 #[.agg #[.slice A n c], .string s] w (Ret (spareV rs s) w) := by
  have hl := Lib.hid hr.len
  have HR := Lib.hid hr; clear hr
  have HO := Lib.hid hok; clear hok
  rcases hg : (gOk rs).isSome with _ | _
  · have e := Lib.hid (spareV1 (p := s) hg)
    have Hg := Lib.hid hg; clear hg
    go_enter Try.func25, Try.ntmps25
    go_wp2_with fail
    refine namedC fun w0 H0 => ?_
    have hb0 : Below w.heap.size w w0 := by rw [H0.out]; (repeat first | exact Below.refl _ _ | assumption | refine Below.drew ?_ | refine Below.alloc ?_ (by first | exact Nat.le_refl _ | (simp; done) | omega | (simp; omega)) _ | refine Below.setCell ?_ (by first | exact Nat.le_refl _ | (simp; done) | omega | (simp; omega)) _)
    clear H0
    refine (validG_any A n c rs w0 (by omega) (HR.out.next hb0) HO.out false Hg.out).mono ?_
    rintro e1 w1 ⟨rfl, hb1⟩
    go_wp2_with fail
    go_ret2
    exact ⟨by rw [e.out]; rfl, hb0.trans (hb1.mono hb0.size)⟩
  have HG := Lib.hid hg
  obtain ⟨ls, hls⟩ := Option.isSome_iff_exists.1 hg
  have HL := Lib.hid (gOk_lens hls).1
  have hn4 : n ≤ 400 := by have := (gOk_lens hls).2.1; have := hl.out; omega
  clear hg hls
  rcases hp : okW s with _ | _
  · have e := Lib.hid (spareV2 HG.out hp)
    have Hp := Lib.hid hp; clear hp
    go_enter Try.func25, Try.ntmps25
    go_wp2_with fail
    refine namedC fun w0 H0 => ?_
    have hb0 : Below w.heap.size w w0 := by rw [H0.out]; (repeat first | exact Below.refl _ _ | assumption | refine Below.drew ?_ | refine Below.alloc ?_ (by first | exact Nat.le_refl _ | (simp; done) | omega | (simp; omega)) _ | refine Below.setCell ?_ (by first | exact Nat.le_refl _ | (simp; done) | omega | (simp; omega)) _)
    have BP := Lib.hid (show Blk w0 (w.heap.size + 1) 9 #[.string s] by rw [H0.out]; simpa using Blk.new (w.alloc _) _ _)
    clear H0
    refine (validG_any A n c rs w0 (by omega) (HR.out.next hb0) HO.out true HG.out).mono ?_
    rintro e1 w1 ⟨rfl, hb1⟩
    have b1 := hb0.trans (hb1.mono hb0.size)
    have c1 := (BP.out.next hb1).cell 0
    have l1 := (BP.out.next hb1).lt
    go_wp2_with fail
    refine (validWord_any s false w1 hs Hp.out).mono ?_
    rintro e2 w2 ⟨rfl, hb2⟩
    go_wp2_with fail
    go_ret2
    exact ⟨by rw [e.out]; rfl, b1.trans (hb2.mono b1.size)⟩
  have Hp := Lib.hid hp
  have hps := (okW_b hp).1
  clear hp
  by_cases h0 : s.size = 0
  · have e := Lib.hid (spareV3 HG.out Hp.out h0)
    have e0 := size0 h0
    clear h0
    go_enter Try.func25, Try.ntmps25
    go_wp2_with fail
    refine namedC fun w0 H0 => ?_
    have hb0 : Below w.heap.size w w0 := by rw [H0.out]; (repeat first | exact Below.refl _ _ | assumption | refine Below.drew ?_ | refine Below.alloc ?_ (by first | exact Nat.le_refl _ | (simp; done) | omega | (simp; omega)) _ | refine Below.setCell ?_ (by first | exact Nat.le_refl _ | (simp; done) | omega | (simp; omega)) _)
    have BP := Lib.hid (show Blk w0 (w.heap.size + 1) 9 #[.string s] by rw [H0.out]; simpa using Blk.new (w.alloc _) _ _)
    clear H0
    refine (validG_any A n c rs w0 (by omega) (HR.out.next hb0) HO.out true HG.out).mono ?_
    rintro e1 w1 ⟨rfl, hb1⟩
    have b1 := hb0.trans (hb1.mono hb0.size)
    have c1 := (BP.out.next hb1).cell 0
    have l1 := (BP.out.next hb1).lt
    go_wp2_with fail
    refine (validWord_any s true w1 hs Hp.out).mono ?_
    rintro e2 w2 ⟨rfl, hb2⟩
    have c2 := ((BP.out.next hb1).next hb2).cell 0
    have l2 := ((BP.out.next hb1).next hb2).lt
    clear c1 l1
    go_wp2_with fail
    go_ret2
    exact ⟨by rw [e.out]; rfl, b1.trans (hb2.mono b1.size)⟩
  have e := Lib.hid (spareV4 HG.out Hp.out h0)
  have e0 := size1 h0
  have e1 := size1' h0
  have h1 : 0 < s.size := by omega
  have H0' := Lib.hid h0; clear h0
  obtain ⟨i0, hi, hz0, hz1, hz2⟩ := info_parts info_i64
  have hmk := run_make_rowN (P := Try.prog) 32 2 i0 _ Try.underlying32 hi hz0 .i64 .i64 s.size s.size (Nat.le_refl _) (by rw [hz2]; omega) (by omega)
  rw [hz1] at hmk
  have Hmk := Lib.hid hmk; clear hmk
  go_enter Try.func25, Try.ntmps25
  go_wp2_with fail
  refine namedC fun w0 H0 => ?_
  have hb0 : Below w.heap.size w w0 := by rw [H0.out]; (repeat first | exact Below.refl _ _ | assumption | refine Below.drew ?_ | refine Below.alloc ?_ (by first | exact Nat.le_refl _ | (simp; done) | omega | (simp; omega)) _ | refine Below.setCell ?_ (by first | exact Nat.le_refl _ | (simp; done) | omega | (simp; omega)) _)
  have BG := Lib.hid (show Blk w0 w.heap.size 26 #[.slice A n c] by rw [H0.out]; simpa using (Blk.new w _ _).alloc _)
  have BP := Lib.hid (show Blk w0 (w.heap.size + 1) 9 #[.string s] by rw [H0.out]; simpa using Blk.new (w.alloc _) _ _)
  clear H0
  refine (validG_any A n c rs w0 (by omega) (HR.out.next hb0) HO.out true HG.out).mono ?_
  rintro e1 w1 ⟨rfl, hb1⟩
  have b1 := hb0.trans (hb1.mono hb0.size)
  have c1 := (BP.out.next hb1).cell 0
  have l1 := (BP.out.next hb1).lt
  go_wp2_with fail
  refine (validWord_any s true w1 hs Hp.out).mono ?_
  rintro e2 w2 ⟨rfl, hb2⟩
  have b2 := b1.trans (hb2.mono b1.size)
  have BP2 := Lib.hid ((BP.out.next hb1).next hb2)
  have BG2 := Lib.hid ((BG.out.next hb1).next hb2)
  have c2 := BP2.out.cell 0
  have l2 := BP2.out.lt
  clear c1 l1
  go_wp2_with fail
  refine (size_any s w2 (by omega)).mono ?_
  rintro e3 w3 ⟨rfl, hb3⟩
  have b3 := b2.trans (hb3.mono b2.size)
  have BP3 := Lib.hid (BP2.out.next hb3)
  have BG3 := Lib.hid (BG2.out.next hb3)
  clear c2 l2
  have hmk := Hmk.out
  go_wp2_with fail
  refine named fun w4 H4 => ?_
  have hb4 : Below w3.heap.size w3 w4 := by rw [H4.out]; (repeat first | exact Below.refl _ _ | assumption | refine Below.drew ?_ | refine Below.alloc ?_ (by first | exact Nat.le_refl _ | (simp; done) | omega | (simp; omega)) _ | refine Below.setCell ?_ (by first | exact Nat.le_refl _ | (simp; done) | omega | (simp; omega)) _)
  have BN4 := Lib.hid (show Blk w4 w3.heap.size 2 #[.int .i64 (s.size : Int)] by rw [H4.out]; exact Blk.new _ _ _)
  clear H4
  have b4 := b3.trans (hb4.mono b3.size)
  have BP4 := Lib.hid (BP3.out.next hb4)
  have BG4 := Lib.hid (BG3.out.next hb4)
  have c4 := BG4.out.cell 0
  have l4 := BG4.out.lt
  have d4 := BN4.out.cell 0
  have m4 := BN4.out.lt
  go_wp2_with fail
  have hz5 := Lib.hid (show RepI (w4.alloc (Obj.cells (madeCells #[Value.int .i64 0] s.size) 2)).drew (.slice (some ⟨w4.heap.size, 0, none⟩) s.size s.size) (zerosI s.size) from by
    have h := repI_zeros w4 s.size s.size h1
    simp only [Value.cells, Nat.mul_one] at h
    exact h)
  have hb5 := Lib.hid (show Below w4.heap.size w4 (w4.alloc (Obj.cells (madeCells #[Value.int .i64 0] s.size) 2)).drew by (repeat first | exact Below.refl _ _ | assumption | refine Below.drew ?_ | refine Below.alloc ?_ (by first | exact Nat.le_refl _ | (simp; done) | omega | (simp; omega)) _ | refine Below.setCell ?_ (by first | exact Nat.le_refl _ | (simp; done) | omega | (simp; omega)) _))
  have hfold := Lib.hid (fun (w' : World) (hz : RepI w' (.slice (some ⟨w4.heap.size, 0, none⟩) s.size s.size) (zerosI s.size)) (hb' : Below w4.heap.size w4 w') =>
    foldV_any [] RepI (repI_ok (E := 32) (by decide)) 71 72 (enterOk Try.func71 (by kernel_rfl) (by kernel_rfl)) (enterOk Try.func72 (by kernel_rfl) (by kernel_rfl))
      #[.pointer (some ⟨w3.heap.size, 0, none⟩), .pointer (some ⟨w.heap.size + 1, 0, none⟩)] #[.pointer (some ⟨w3.heap.size, 0, none⟩)] (spF s) (spG s.size) (zerosI s.size) (.slice (some ⟨w4.heap.size, 0, none⟩) s.size s.size) A n c rs w' hn
      (HR.out.next (b4.trans (hb'.mono b4.size))) (wf_of HL.out) hz
      (fun k r hr h0 w2 hb2 => by
        have hB := hb'.trans (hb2.mono hb'.size)
        rcases wf_of HL.out k r hr with ⟨h0', _⟩ | ⟨cc, hcc, hxl, _⟩
        · exact absurd h0' h0
        · have h := sp1_any (letN r.l) w3.heap.size (w.heap.size + 1) s w2 (BN4.out.next hB).lt (BP4.out.next hB).lt ((BN4.out.next hB).cell 0) ((BP4.out.next hB).cell 0) Hp.out (letN_lt (by rw [hxl]; exact hcc))
          simpa using h)
      (fun k r hr h0 w2 va vb hb2 ha hb => by
        have hB := hb'.trans (hb2.mono hb'.size)
        have hk : k < rs.length := (List.getElem?_eq_some_iff.1 hr).1
        rcases wf_of HL.out k r hr with ⟨_, ha0, ha1, hb0, hb1⟩ | ⟨cc, _, hxl, _⟩
        · rw [outs_full [] (spF s) (spG s.size) (k := k) (i := r.a.toNat) (by omega) (by omega)] at ha ⊢
          rw [outs_full [] (spF s) (spG s.size) (k := k) (i := r.b.toNat) (by omega) (by omega)] at hb ⊢
          have h := sp2_any _ _ va vb r w3.heap.size s.size w2 (BN4.out.next hB).lt ((BN4.out.next hB).cell 0) h1 hps (sp_b15 HL.out h1 (k := r.a.toNat) (by omega)) (sp_b15 HL.out h1 (k := r.b.toNat) (by omega)) ha hb
          simpa using h
        · rw [hxl] at h0; exact absurd h0 (show ¬ (1 : Nat) = 0 by omega)))
  go_region_held3 (fun w' => w'.cell? ⟨w.heap.size, 0, none⟩ = some (.slice A n c) ∧ w'.cell? ⟨w3.heap.size, 0, none⟩ = some (.int .i64 (s.size : Int)))
    (first | exact ⟨s0, s1⟩ | go_keep)
    (first
      | (go_at_call 70
         refine (hfold.out _ hz5.out hb5.out).mono ?_
         rintro e5 w6 ⟨A6, c6, vs, rfl, own6, reps6, hb6⟩
         have b46 := Lib.hid (hb5.out.trans (hb6.mono hb5.out.size))
         have s0 := (BG4.out.next b46.out).cell 0
         have s1 := (BN4.out.next b46.out).cell 0)
      | fail)
  all_goals
    clear hmk
    have b6 := b4.trans (b46.out.mono b4.size)
    have hL := foldAll_len [] (spF s) (spG s.size) (zerosI s.size) rs
    have hlr := hl.out
    have hR := reps6.at_ undef (show (foldAll [] (spF s) (spG s.size) (zerosI s.size) rs).length - 1 < vs.length by rw [reps6.1]; omega)
    have hvl := Lib.hid reps6.1
    have eT := Lib.hid (spTop_eq rs s H0'.out)
    have eL := Lib.hid (foldAll_SB HL.out h1)
    have eB := spTop_b HL.out h1
    obtain ⟨g, cap, hv, hg0, hg1⟩ := own6.form (by omega)
    obtain rfl : A6 = some ⟨g, 0, none⟩ := by injection hv
    have cv := own_at (enc := encV) (sz := 1) (fun _ _ => rfl) own6 hvl.out undef ((foldAll [] (spF s) (spG s.size) (zerosI s.size) rs).length - 1) (by omega) 0 Nat.zero_lt_one
    obtain ⟨g3, c3, cs3, ev, hB3, hcs3⟩ := hR
    rw [eL.out] at ev hcs3
    have cz := (hB3.cell 0).trans (hcs3 0 h1)
    rw [eT.out] at cz
    have hg3 := hB3.lt
    have cv' : w6.cell? ⟨g, (foldAll [] (spF s) (spG s.size) (zerosI s.size) rs).length - 1, none⟩ = some (.slice (some ⟨g3, 0, none⟩) s.size c3) := by
      rw [← ev]; simpa [encV] using cv
    have hLn : (foldAll [] (spF s) (spG s.size) (zerosI s.size) rs).length ≤ 401 := by omega
    obtain ⟨hL0, _⟩ := hL
    have cn := (BN4.out.next b46.out).cell 0
    have ln := (BN4.out.next b46.out).lt
    clear ev cv hv hcs3 hB3 own6 reps6 hlr s0 s1
    generalize (foldAll [] (spF s) (spG s.size) (zerosI s.size) rs).length = L at *
    obtain ⟨eB0, eB1⟩ := eB
    have ht : (spTop rs s).tdiv (s.size : Int) = spTop rs s / (s.size : Int) := Int.tdiv_eq_ediv_of_nonneg eB0
    have hq := Int.ediv_nonneg eB0 (show (0 : Int) ≤ (s.size : Int) by omega)
    have hq1 := Int.ediv_le_self (b := (s.size : Int)) eB0
    generalize hT : spTop rs s = T at *
    clear hT eL eT hvl cap hg0
    have u1 : IntKind.i64.wrap (T / (s.size : Int)) = T / (s.size : Int) := IntWalk.i64_in _ (by omega)
    go_wp2_with fail
    have hsn : ¬ s.size = 0 := H0'.out
    have hT7 := Lib.hid (fun (w' : World) (h : Below w6.heap.size w6 w') => topV_any (some ⟨g, 0, none⟩) L c6 _ w' (by omega) (by omega) g rfl (Nat.lt_of_lt_of_le hg1 h.size) ((h.cell (p := ⟨g, L - 1, none⟩) hg1).trans cv') ⟨_, _, _, rfl⟩)
    go_region_held3 (fun w' => w'.cell? ⟨g3, 0, none⟩ = some (.int .i64 T) ∧ w'.cell? ⟨w3.heap.size, 0, none⟩ = some (.int .i64 (s.size : Int)))
      (first | exact ⟨t0, t1⟩ | exact ⟨cz, cn⟩ | go_keep)
      (first
        | (go_at_call 73
           refine (hT7.out _ (Below.refl _ _).drew).mono ?_
           rintro e7 w7 ⟨rfl, hb7⟩
           have hb67 : Below w6.heap.size w6 w7 := (Below.refl _ _).drew.trans hb7
           have t0 : w7.cell? ⟨g3, 0, none⟩ = some (.int .i64 T) := (hb67.cell (p := ⟨g3, 0, none⟩) hg3).trans cz
           have t1 : w7.cell? ⟨w3.heap.size, 0, none⟩ = some (.int .i64 (s.size : Int)) := (hb67.cell (p := ⟨w3.heap.size, 0, none⟩) ln).trans cn)
        | fail)
    all_goals
      go_wp2_with fail
      go_ret2
      exact ⟨by rw [e.out]; rfl, b6.trans (hb67.mono b6.size)⟩
end Go.Proofs.Ytecnkmndmnefdaa


/-
  The least places at which a word is scattered: the model.
-/
namespace Go.Proofs.Ytecnkmndmnefdaa
open Go.RowKit

theorem rk_nonneg {v : Nat → Int} {ls : List Int} {rs : List Fac} (hls : gLens rs [] = some ls) (hv : ∀ k, k < rs.length → 0 ≤ v k) : ∀ (f r : Nat) (m : Int), r < rs.length → 0 ≤ rk v ls rs f r m
  | 0, _, _, _ => Int.le_refl _
  | f + 1, r, m, hr => by
    rw [rk]
    by_cases h0 : m ≤ 0
    · rw [if_pos h0]; exact Int.le_refl _
    rw [if_neg h0]
    by_cases h1 : ls.getD r 0 ≤ m
    · rw [if_pos h1]; exact hv r hr
    rw [if_neg h1]
    have hx : rs[r]? = some (rs[r]'hr) := List.getElem?_eq_getElem _
    rw [hx]
    generalize rs[r]'hr = x at *
    have hab : x.a.toNat < rs.length ∧ x.b.toNat < rs.length := by
      rcases wf_of hls r x hx with ⟨_, h4, h5, h6, h7⟩ | ⟨_, _, _, h5, h6⟩
      · omega
      · rw [h5, h6]; show 0 < _ ∧ 0 < _; omega
    have a1 := rk_nonneg hls hv f x.a.toNat m hab.1
    have a2 := rk_nonneg hls hv f x.b.toNat (m - ls.getD x.a.toNat 0) hab.2
    show 0 ≤ rk v ls rs f x.a.toNat m + rk v ls rs f x.b.toNat (m - ls.getD x.a.toNat 0)
    omega
theorem rkV_nonneg {rs : List Fac} {ls : List Int} (hls : gLens rs [] = some ls) (l : Nat) : ∀ k, k < rs.length → 0 ≤ rkV rs l k := fun _ hk => ((cnt_bound hls hk).at_ l).1
theorem rkT_b {rs : List Fac} {ls : List Int} (hls : gLens rs [] = some ls) (l : Nat) {m : Int} (hm : 0 ≤ m) : 0 ≤ rkT (rkV rs l) ls rs m ∧ rkT (rkV rs l) ls rs m ≤ m := by
  unfold rkT
  by_cases h0 : rs.length = 0
  · rw [if_pos h0]; omega
  rw [if_neg h0]
  have a := rk_bound hls (c := 1) (by omega) (rkV_bound hls l) rs.length (rs.length - 1) m (by omega) hm
  exact ⟨rk_nonneg hls (rkV_nonneg hls l) _ _ _ (by omega), by omega⟩
theorem selGo_range {rs : List Fac} {ls : List Int} (hls : gLens rs [] = some ls) {l : Nat} (_hl : l < 4) : ∀ {r f : Nat} {k t : Int}, r < f → r < rs.length → 0 ≤ k → k < ((cnts rs).getD r Q4.nil).at_ l →
    t ≤ selGo (cnts rs) ls rs l f r k t ∧ selGo (cnts rs) ls rs l f r k t < t + ls.getD r 0 := by
  intro r
  induction r using Nat.strongRecOn with
  | ind r ih =>
    intro f k t hf hr h0 h1
    have hx : rs[r]? = some (rs[r]'hr) := List.getElem?_eq_getElem _
    generalize rs[r]'hr = x at *
    have lb := lens_bound hls hr
    by_cases hp : x.l.size = 0
    · rcases wf_of hls r x hx with ⟨_, ha0, ha1, hb0, hb1⟩ | ⟨_, _, hxl, _⟩
      · have e := full_pair Q4.nil cntF cntG (wf_of hls) hx hp
        have e2 : ((cnts rs).getD r Q4.nil).at_ l = ((cnts rs).getD x.a.toNat Q4.nil).at_ l + ((cnts rs).getD x.b.toNat Q4.nil).at_ l := by
          show ((full Q4.nil cntF cntG rs).getD r Q4.nil).at_ l = _
          rw [e, cntG_at]
        have lp := lens_pair hls hx hp
        have lb1 := lens_bound hls (i := x.a.toNat) (by omega)
        have lb2 := lens_bound hls (i := x.b.toNat) (by omega)
        rw [selGo_step hf hx hp]
        by_cases hk : k < ((cnts rs).getD x.a.toNat Q4.nil).at_ l
        · rw [if_pos hk]
          have := ih x.a.toNat (by omega) (f := f - 1) (k := k) (t := t) (by omega) (by omega) h0 hk
          omega
        · rw [if_neg hk]
          have := ih x.b.toNat (by omega) (f := f - 1) (k := k - ((cnts rs).getD x.a.toNat Q4.nil).at_ l) (t := t + ls.getD x.a.toNat 0) (by omega) (by omega) (by omega) (by omega)
          omega
      · rw [hxl] at hp; exact absurd hp (show ¬ (1 : Nat) = 0 by omega)
    · rw [selGo_stop hf hx hp]
      omega
/-- the place of a letter from some place on -/
def nextAt (rs : List Fac) (ls : List Int) (l : Nat) (nx : Int) : Int := selGo (cnts rs) ls rs l rs.length (rs.length - 1) (rkT (rkV rs l) ls rs nx) 0
def embGo (rs : List Fac) (ls : List Int) : List UInt8 → Int → List Int
  | [], _ => []
  | c :: r, nx => if (topQ rs).at_ (c.toNat - 97) ≤ rkT (rkV rs (c.toNat - 97)) ls rs nx then [] else nextAt rs ls (c.toNat - 97) nx :: embGo rs ls r (nextAt rs ls (c.toNat - 97) nx + 1)
theorem nextAt_b {rs : List Fac} {ls : List Int} (hls : gLens rs [] = some ls) (hll : ls.length = rs.length) {l : Nat} (hl : l < 4) {nx : Int} (hn : 0 ≤ nx) (h : ¬ (topQ rs).at_ l ≤ rkT (rkV rs l) ls rs nx) :
    0 ≤ nextAt rs ls l nx ∧ nextAt rs ls l nx + 1 ≤ lastI ls := by
  have hb := rkT_b hls l hn
  have hpos : 0 < rs.length := by
    rcases Nat.eq_zero_or_pos rs.length with h0 | h0
    · exfalso; apply h
      rw [show topQ rs = Q4.nil by unfold topQ; rw [if_pos h0]]
      have : Q4.nil.at_ l = 0 := by
        rcases (show l = 0 ∨ l = 1 ∨ l = 2 ∨ l = 3 by omega) with rfl | rfl | rfl | rfl <;> rfl
      omega
    · exact h0
  have e : topQ rs = (cnts rs).getD (rs.length - 1) Q4.nil := by unfold topQ; rw [if_neg (by omega)]
  rw [e] at h
  have := selGo_range hls hl (r := rs.length - 1) (f := rs.length) (t := 0) (by omega) (by omega) hb.1 (by omega)
  have e2 : lastI ls = ls.getD (rs.length - 1) 0 := by unfold lastI; rw [hll]
  rw [e2]
  unfold nextAt
  omega
def embAll (rs : List Fac) (ls : List Int) (p : ByteArray) : List Int := embGo rs ls p.data.toList 0
theorem embGo_len (rs : List Fac) (ls : List Int) : ∀ (p : List UInt8) (nx : Int), (embGo rs ls p nx).length ≤ p.length
  | [], _ => by simp [embGo]
  | c :: r, nx => by
    unfold embGo
    split
    · simp
    · have := embGo_len rs ls r (nextAt rs ls (c.toNat - 97) nx + 1)
      simp; omega
def embsV (rs : List Fac) (p : ByteArray) : Value := if (gOk rs).isSome = false then tup2 0 1 else if okW p = false then tup2 0 1 else tup2 ((embAll rs ((gLens rs []).getD []) p).length : Int) 0
theorem embsV_form (rs : List Fac) (p : ByteArray) : ∃ b k, embsV rs p = .tuple #[.int .i64 b, .int .i64 k] := by
  unfold embsV
  split
  · exact ⟨_, _, rfl⟩
  split
  · exact ⟨_, _, rfl⟩
  · exact ⟨_, _, rfl⟩
theorem embsV1 {rs : List Fac} {p : ByteArray} (h : (gOk rs).isSome = false) : embsV rs p = tup2 0 1 := by unfold embsV; rw [if_pos h]
theorem embsV2 {rs : List Fac} {p : ByteArray} (h : (gOk rs).isSome = true) (h2 : okW p = false) : embsV rs p = tup2 0 1 := by unfold embsV; rw [if_neg (by rw [h]; decide), if_pos h2]
theorem embsV3 {rs : List Fac} {ls : List Int} {p : ByteArray} (hls : gLens rs [] = some ls) (h : (gOk rs).isSome = true) (h2 : okW p = true) : embsV rs p = tup2 ((embAll rs ls p).length : Int) 0 := by
  unfold embsV; rw [if_neg (by rw [h]; decide), if_neg (by rw [h2]; decide), hls]; rfl
end Go.Proofs.Ytecnkmndmnefdaa


/-
  The least places at which a word is scattered: in the program.
-/
namespace Go.Proofs.Ytecnkmndmnefdaa
open Go.RowKit

set_option maxHeartbeats 4000000 in
set_option maxRecDepth 100000 in
theorem embed_any (A : Option Addr) (n c : Nat) (rs : List Fac) (A2 : Option Addr) (c2 : Nat) (A3 : Option Addr) (N c3 : Nat) (ls : List Int) (p : ByteArray) (w : World) (hn : n ≤ 1048576) (hr : Rd w w.heap.size A n 3 Fac.cells rs)
    (hls : gLens rs [] = some ls) (hll : ls.length = rs.length) (h2 : Rd w w.heap.size A2 n 1 intE ls) (hN : (foldAll Q4.nil cntF cntG Q4.nil rs).length = N) (h3 : Rd w w.heap.size A3 N 4 encQ4 (foldAll Q4.nil cntF cntG Q4.nil rs)) (hp : okW p = true) :
    Calls Try.prog 76 #[.agg #[.slice A n c, .slice A2 n c2, .slice A3 N c3], .string p] w (RetNew w 2 1 intE (embAll rs ls p)) := by
  have hl := Lib.hid hr.len
  have HR := Lib.hid hr; clear hr
  have HL := Lib.hid hls; clear hls
  have Hll := Lib.hid hll; clear hll
  have HN := Lib.hid hN; clear hN
  have r2 := Lib.hid h2; clear h2
  have r3 := Lib.hid h3; clear h3
  have hps := (okW_b hp).1
  have HP := Lib.hid (okW_b hp).2; clear hp
  have hlb := lastI_bound HL.out Hll.out
  have hbl := byte_len p
  go_enter Try.func76, Try.ntmps76
  go_wp2_with fail
  go_loopw [5, 6, 14] (fun o_ n_ i_ w' => ∃ (i : Nat) (nx : Int) (o : List Int) (A' : Option Addr) (c' : Nat), i_ = .int .i64 i ∧ n_ = .int .i64 nx ∧ o_ = .slice A' o.length c' ∧ i ≤ p.size ∧ o.length ≤ i ∧ Below w.heap.size w w' ∧
      Hid (w'.ownsRow w.heap.size 2 1 (.slice A' o.length c') o.length (o.flatMap intE)) ∧ Hid (Blk w' w.heap.size 59 #[.slice A n c, .slice A2 n c2, .slice A3 N c3]) ∧ (0 ≤ nx ∧ nx ≤ lastI ls) ∧
      Hid (embAll rs ls p = o ++ embGo rs ls (p.data.toList.drop i) nx)) (fun _ _ i_ _ => p.size - (intOf i_).toNat)
  case atStart =>
    exact ⟨0, 0, [], _, 0, rfl, rfl, rfl, by omega, by simp, by (repeat first | exact Below.refl _ _ | assumption | refine Below.drew ?_ | refine Below.alloc ?_ (by first | exact Nat.le_refl _ | (simp; done) | omega | (simp; omega)) _ | refine Below.setCell ?_ (by first | exact Nat.le_refl _ | (simp; done) | omega | (simp; omega)) _),
      Lib.hid (by simpa using World.ownsRow_made (base := w.heap.size) (e := 2) (size := 1) (w.alloc (.cells #[.slice A n c, .slice A2 n c2, .slice A3 N c3] 59)) #[] 0 (by simp) (by unfold maxLen; omega) rfl),
      Lib.hid ((Blk.new w _ _).alloc _), by omega, Lib.hid rfl⟩
  case round =>
    obtain ⟨i, nx, o, A', c', rfl, rfl, rfl, hi, hoi, hb, hown, hBC, ⟨n1, n2⟩, H⟩ := hrel
    by_cases hlt : i < p.size
    · have hlet := HP.out i hlt
      obtain ⟨k0, k1⟩ := letB_num hlet
      have H' := Lib.hid (show embAll rs ls p = o ++ (if (topQ rs).at_ ((p[i]'hlt).toNat - 97) ≤ rkT (rkV rs ((p[i]'hlt).toNat - 97)) ls rs nx then [] else nextAt rs ls ((p[i]'hlt).toNat - 97) nx :: embGo rs ls (p.data.toList.drop (i + 1)) (nextAt rs ls ((p[i]'hlt).toNat - 97) nx + 1)) by
        rw [H.out, drop_cons (at_byte p i hlt)]; rfl)
      have v1 : IntKind.u8.wrap (((p[i]'hlt).toNat : Int) - 97) = (((p[i]'hlt).toNat - 97 : Nat) : Int) := by show (((p[i]'hlt).toNat : Int) - 97) % 256 = _; omega
      have hl4 : (p[i]'hlt).toNat - 97 < 4 := by omega
      clear H hlet
      generalize hgl : (p[i]'hlt).toNat - 97 = l at *
      have hd : Below wr.heap.size wr wr.drew := (Below.refl _ _).drew
      have hbd := rkT_b HL.out l n1
      obtain ⟨q0, q1⟩ := hbd
      have hrk := Lib.hid (rank_any A n c rs A2 c2 A3 N c3 ls l nx wr.drew hn (HR.out.next (hb.trans (hd.mono hb.size))) HL.out (r2.out.next (hb.trans (hd.mono hb.size))) HN.out (r3.out.next (hb.trans (hd.mono hb.size))) hl4 n1 (by omega))
      have hsel := Lib.hid (fun (v : Value) hv (w' : World) (hb' : Below wr.heap.size wr w') => sel_any A n c rs A2 c2 A3 N c3 ls l (rkT (rkV rs l) ls rs nx) w' hn (HR.out.next (hb.trans (hb'.mono hb.size))) HL.out (r2.out.next (hb.trans (hb'.mono hb.size))) HN.out (r3.out.next (hb.trans (hb'.mono hb.size))) hl4 q0 (by omega) v hv)
      have hNA := Lib.hid (fun h => nextAt_b HL.out Hll.out hl4 n1 h)
      have enx := Lib.hid (show nextAt rs ls l nx = selGo (cnts rs) ls rs l rs.length (rs.length - 1) (rkT (rkV rs l) ls rs nx) 0 from rfl)
      obtain ⟨d0, d1, d2⟩ := hBC.out.three
      have lc := hBC.out.lt
      rw [enx.out] at H' hNA
      generalize rkT (rkV rs l) ls rs nx = y at *
      generalize selGo (cnts rs) ls rs l rs.length (rs.length - 1) y 0 = z at *
      by_cases hf : (topQ rs).at_ l ≤ y
      · rw [if_pos hf] at H'
        have hs4 := Lib.hid (hsel.out _ (if_pos hf))
        clear hf hsel hNA
        go_wp2_with fail
        go_region_held3 (fun w' => w'.cell? ⟨w.heap.size, 0, none⟩ = some (.slice A n c) ∧ w'.cell? ⟨w.heap.size, 1, none⟩ = some (.slice A2 n c2) ∧ w'.cell? ⟨w.heap.size, 2, none⟩ = some (.slice A3 N c3))
          (first | exact ⟨t0, t1, t2⟩ | exact ⟨s0, s1, s2⟩ | exact ⟨d0, d1, d2⟩ | go_keep)
          (first
            | (go_at_call 39
               refine hrk.out.mono ?_
               rintro e w6 ⟨rfl, hb6⟩
               have b6 : Below wr.heap.size wr w6 := hd.trans (hb6.mono hd.size)
               have s0 : w6.cell? ⟨w.heap.size, 0, none⟩ = some (.slice A n c) := (b6.cell (p := ⟨w.heap.size, 0, none⟩) lc).trans d0
               have s1 : w6.cell? ⟨w.heap.size, 1, none⟩ = some (.slice A2 n c2) := (b6.cell (p := ⟨w.heap.size, 1, none⟩) lc).trans d1
               have s2 : w6.cell? ⟨w.heap.size, 2, none⟩ = some (.slice A3 N c3) := (b6.cell (p := ⟨w.heap.size, 2, none⟩) lc).trans d2)
            | (go_at_call 50
               refine (hs4.out w6 b6).mono ?_
               rintro e w7 ⟨rfl, hb7⟩
               have b7 : Below wr.heap.size wr w7 := b6.trans (hb7.mono b6.size)
               have t0 : w7.cell? ⟨w.heap.size, 0, none⟩ = some (.slice A n c) := (b7.cell (p := ⟨w.heap.size, 0, none⟩) lc).trans d0
               have t1 : w7.cell? ⟨w.heap.size, 1, none⟩ = some (.slice A2 n c2) := (b7.cell (p := ⟨w.heap.size, 1, none⟩) lc).trans d1
               have t2 : w7.cell? ⟨w.heap.size, 2, none⟩ = some (.slice A3 N c3) := (b7.cell (p := ⟨w.heap.size, 2, none⟩) lc).trans d2)
            | fail)
        all_goals
          go_wp2_with fail
          go_ret
          refine ⟨A', c', ret_slice (by rw [H'.out]; simp), ?_, hb.trans (b7.mono hb.size)⟩
          rw [show embAll rs ls p = o by rw [H'.out]; simp]
          exact own_next hown.out b7
      · rw [if_neg hf] at H'
        have hs4 := Lib.hid (hsel.out _ (if_neg hf))
        have hN2 := hNA.out (by simpa using hf)
        obtain ⟨z0, z1⟩ := hN2
        have u1 : IntKind.i64.wrap (z + 1) = z + 1 := IntWalk.i64_in _ (by omega)
        clear hf hsel hNA
        go_wp2_with fail
        go_region_held3 (fun w' => w'.cell? ⟨w.heap.size, 0, none⟩ = some (.slice A n c) ∧ w'.cell? ⟨w.heap.size, 1, none⟩ = some (.slice A2 n c2) ∧ w'.cell? ⟨w.heap.size, 2, none⟩ = some (.slice A3 N c3))
          (first | exact ⟨t0, t1, t2⟩ | exact ⟨s0, s1, s2⟩ | exact ⟨d0, d1, d2⟩ | go_keep)
          (first
            | (go_at_call 39
               refine hrk.out.mono ?_
               rintro e w6 ⟨rfl, hb6⟩
               have b6 : Below wr.heap.size wr w6 := hd.trans (hb6.mono hd.size)
               have s0 : w6.cell? ⟨w.heap.size, 0, none⟩ = some (.slice A n c) := (b6.cell (p := ⟨w.heap.size, 0, none⟩) lc).trans d0
               have s1 : w6.cell? ⟨w.heap.size, 1, none⟩ = some (.slice A2 n c2) := (b6.cell (p := ⟨w.heap.size, 1, none⟩) lc).trans d1
               have s2 : w6.cell? ⟨w.heap.size, 2, none⟩ = some (.slice A3 N c3) := (b6.cell (p := ⟨w.heap.size, 2, none⟩) lc).trans d2)
            | (go_at_call 50
               refine (hs4.out w6 b6).mono ?_
               rintro e w7 ⟨rfl, hb7⟩
               have b7 : Below wr.heap.size wr w7 := b6.trans (hb7.mono b6.size)
               have t0 : w7.cell? ⟨w.heap.size, 0, none⟩ = some (.slice A n c) := (b7.cell (p := ⟨w.heap.size, 0, none⟩) lc).trans d0
               have t1 : w7.cell? ⟨w.heap.size, 1, none⟩ = some (.slice A2 n c2) := (b7.cell (p := ⟨w.heap.size, 1, none⟩) lc).trans d1
               have t2 : w7.cell? ⟨w.heap.size, 2, none⟩ = some (.slice A3 N c3) := (b7.cell (p := ⟨w.heap.size, 2, none⟩) lc).trans d2)
            | fail)
        all_goals
          have hown7 := Lib.hid (own_next hown.out b7)
          have BC7 := Lib.hid (hBC.out.next b7)
          have cb7 := hb.trans (b7.mono hb.size)
          have hne := Lib.hid (show some w.heap.size ≠ (Value.slice A' o.length c').ownBlock from own_blk_ne hown7.out BC7.out (by decide))
          have BC8 := Lib.hid (BC7.out.alloc (.cells #[.int .i64 z] 2))
          have cb8 := cb7.alloc cb7.size (.cells #[.int .i64 z] 2)
          clear s0 s1 s2 t0 t1 t2 d0 d1 d2
          go_wp2_with
            (at_builtin
             refine wpList_push (w0 := w) rfl _ _ _ rfl w.heap.size 2 1 8 elem_int intE _ o.length c' o rfl (hown7.out.alloc _) w7.heap.size z #[.int .i64 z] 2 (0, 0) rfl (heap_alloc_new _ _) rfl rfl (by simp [intE, Value.oneCell']) (by omega) (by omega) (by unfold maxLen; omega) rfl cb8 ?_
             intro A9 c9 w9 own9 hg9 hat9 hb9
             have O9 := Lib.hid own9
             have BC9 := Lib.hid (BC8.out.grown hg9 hne.out)
             clear own9 hat9 hg9)
          clear u1
          go_roundw
          case rel =>
            refine ⟨i + 1, z + 1, o ++ [z], A9, c9, by go_num, rfl, by simp, by omega, by simp; omega, hb9, Lib.hid ?_, BC9, by omega, Lib.hid (by rw [H'.out]; simp)⟩
            simpa using O9.out
          case measure => simp [intOf]; omega
    · have H' := Lib.hid (show embAll rs ls p = o by rw [H.out, List.drop_of_length_le (by rw [hbl]; omega)]; simp [embGo])
      go_wp2_with fail
      go_ret
      refine ⟨A', c', ret_slice (by rw [H'.out]), ?_, hb⟩
      rw [H'.out]
      exact hown.out
end Go.Proofs.Ytecnkmndmnefdaa


/-
  EmbeddedStart in the program and in the reference; embed in the reference.
-/
namespace Go.Proofs.Ytecnkmndmnefdaa
open Go.RowKit

theorem own_block {w w' : World} {base : Nat} {e : TypeId} {sz n : Nat} {v : Value} {xs : List Value} (h : w.ownsRow base e sz v n xs) (hb : ∀ k, v.ownBlock = some k → w'.heap[k]? = w.heap[k]?) : w'.ownsRow base e sz v n xs := by
  refine ⟨h.1, ?_⟩
  rcases h.2 with hn | ⟨g, cap, cur, rfl, hg, hh, r⟩
  · exact .inl hn
  · exact .inr ⟨g, cap, cur, rfl, hg, (hb g rfl).trans hh, r⟩
end Go.Proofs.Ytecnkmndmnefdaa


/-
  EmbedFirst in the program and in the reference.
-/
namespace Go.Proofs.Ytecnkmndmnefdaa
open Go.RowKit

def embFC (rs : List Fac) (p : ByteArray) : Int := if (gOk rs).isSome = false then 1 else if okW p = false then 1 else if (embAll rs ((gLens rs []).getD []) p).length < p.size then 6 else 0
def embFL (rs : List Fac) (p : ByteArray) : List Int := if embFC rs p = 0 then embAll rs ((gLens rs []).getD []) p else []
theorem embF1 {rs : List Fac} {p : ByteArray} (h : (gOk rs).isSome = false) : embFC rs p = 1 ∧ embFL rs p = [] := by
  have e : embFC rs p = 1 := by unfold embFC; rw [if_pos h]
  exact ⟨e, by unfold embFL; rw [if_neg (by rw [e]; decide)]⟩
theorem embF2 {rs : List Fac} {p : ByteArray} (h : (gOk rs).isSome = true) (h2 : okW p = false) : embFC rs p = 1 ∧ embFL rs p = [] := by
  have e : embFC rs p = 1 := by unfold embFC; rw [if_neg (by rw [h]; decide), if_pos h2]
  exact ⟨e, by unfold embFL; rw [if_neg (by rw [e]; decide)]⟩
theorem embF3 {rs : List Fac} {ls : List Int} {p : ByteArray} (hls : gLens rs [] = some ls) (h : (gOk rs).isSome = true) (h2 : okW p = true) (h3 : (embAll rs ls p).length < p.size) : embFC rs p = 6 ∧ embFL rs p = [] := by
  have e : embFC rs p = 6 := by unfold embFC; rw [if_neg (by rw [h]; decide), if_neg (by rw [h2]; decide), hls, if_pos (show (embAll rs ((some ls).getD []) p).length < p.size from h3)]
  exact ⟨e, by unfold embFL; rw [if_neg (by rw [e]; decide)]⟩
theorem embF4 {rs : List Fac} {ls : List Int} {p : ByteArray} (hls : gLens rs [] = some ls) (h : (gOk rs).isSome = true) (h2 : okW p = true) (h3 : ¬ (embAll rs ls p).length < p.size) : embFC rs p = 0 ∧ embFL rs p = embAll rs ls p := by
  have e : embFC rs p = 0 := by unfold embFC; rw [if_neg (by rw [h]; decide), if_neg (by rw [h2]; decide), hls, if_neg (show ¬ (embAll rs ((some ls).getD []) p).length < p.size from h3)]
  exact ⟨e, by unfold embFL; rw [if_pos e, hls]; rfl⟩
theorem embFL_len (rs : List Fac) (p : ByteArray) : (embFL rs p).length ≤ p.size := by
  unfold embFL
  split
  · have := embGo_len rs ((gLens rs []).getD []) p.data.toList 0
    rw [byte_len] at this
    exact this
  · simp
set_option maxHeartbeats 2000000 in
set_option maxRecDepth 100000 in
theorem implEmbF_any (A : Option Addr) (n c : Nat) (rs : List Fac) (s : ByteArray) (w : World) (hn : n ≤ 1048576) (hr : Rd w w.heap.size A n 3 Fac.cells rs) (hok : ∀ f ∈ rs, f.l.size ≤ maxLen) (hs : s.size ≤ maxLen) :
    Calls Try.prog 28 #[.agg #[.slice A n c], .string s] w (RetNewC w 2 1 intE (embFL rs s) (embFC rs s)) := by
  have hl := Lib.hid hr.len
  have HR := Lib.hid hr; clear hr
  have HO := Lib.hid hok; clear hok
  go_enter Try.func28, Try.ntmps28
  go_wp2_with fail
  refine namedC fun w0 H0 => ?_
  have hb0 : Below w.heap.size w w0 := by rw [H0.out]; (repeat first | exact Below.refl _ _ | assumption | refine Below.drew ?_ | refine Below.alloc ?_ (by first | exact Nat.le_refl _ | (simp; done) | omega | (simp; omega)) _ | refine Below.setCell ?_ (by first | exact Nat.le_refl _ | (simp; done) | omega | (simp; omega)) _)
  clear H0
  refine (census_any A n c rs w0 hn (HR.out.next hb0) HO.out).mono ?_
  rintro e w1 ⟨hb1, ⟨ls, A2, c2, A3, c3, hg, rfl, own2, own3⟩ | ⟨hg, rfl⟩⟩
  case inr =>
    obtain ⟨e1, e2⟩ := embF1 (p := s) (show (gOk rs).isSome = false by rw [hg]; rfl)
    have E1 := Lib.hid e1; have E2 := Lib.hid e2
    clear hg e1 e2
    go_wp2_with fail
    go_ret2
    rw [E1.out, E2.out]
    exact ⟨none, 0, rfl, World.ownsRow_nil _ _ _ _, (hb0.trans (hb1.mono hb0.size)).alloc (by have := hb0.size; have := hb1.size; omega) _⟩
  have HG := Lib.hid (show (gOk rs).isSome = true by rw [hg]; rfl)
  have HL := Lib.hid (gOk_lens hg).1
  have hll0 := Lib.hid (gOk_lens hg).2.2
  have hll := Lib.hid ((gOk_lens hg).2.2.trans hl.out)
  clear hg
  have b1 := hb0.trans (hb1.mono hb0.size)
  have r2 := Lib.hid (Rd.of_own (enc := intE) (fun _ _ => rfl) hll.out own2)
  have r3 := Lib.hid (Rd.of_own (fun y _ => lenQ4 y) rfl own3)
  clear own2 own3
  generalize hN : (foldAll Q4.nil cntF cntG Q4.nil rs).length = N at *
  have HN := Lib.hid hN; clear hN
  go_wp2_with fail
  refine namedC fun w2 H2 => ?_
  have hb2 : Below w1.heap.size w1 w2 := by rw [H2.out]; (repeat first | exact Below.refl _ _ | assumption | refine Below.drew ?_ | refine Below.alloc ?_ (by first | exact Nat.le_refl _ | (simp; done) | omega | (simp; omega)) _ | refine Below.setCell ?_ (by first | exact Nat.le_refl _ | (simp; done) | omega | (simp; omega)) _)
  have BC := Lib.hid (show Blk w2 w1.heap.size 59 #[.slice A n c, .slice A2 n c2, .slice A3 N c3] by rw [H2.out]; exact Blk.new _ _ _)
  clear H2
  have b2 := b1.trans (hb2.mono b1.size)
  rcases h2 : okW s with _ | _
  · obtain ⟨e1, e2⟩ := embF2 HG.out h2
    have H2 := Lib.hid h2; clear h2
    have E1 := Lib.hid e1; have E2 := Lib.hid e2
    clear e1 e2
    refine (validWord_any s false _ hs H2.out).mono ?_
    rintro e1 w3 ⟨rfl, hb3⟩
    go_wp2_with fail
    go_ret2
    rw [E1.out, E2.out]
    exact ⟨none, 0, rfl, World.ownsRow_nil _ _ _ _, b2.trans (hb3.mono b2.size)⟩
  have H2 := Lib.hid h2; clear h2
  refine (validWord_any s true _ hs H2.out).mono ?_
  rintro e1 w3 ⟨rfl, hb3⟩
  have b3 := b2.trans (hb3.mono b2.size)
  have hb13 := hb2.trans (hb3.mono hb2.size)
  have BC3 := BC.out.next hb3
  obtain ⟨d0, d1, d2⟩ := BC3.three
  have l3 := BC3.lt
  clear BC3
  go_wp2_with fail
  refine (embed_any A n c rs A2 c2 A3 N c3 ls s w3 hn (HR.out.next b3) HL.out hll0.out (r2.out.next hb13) HN.out (r3.out.next hb13) H2.out).mono ?_
  rintro e1 w4 ⟨A4, c4, rfl, own4, hb4⟩
  have O4 := Lib.hid own4; clear own4
  have b4 := b3.trans (hb4.mono b3.size)
  by_cases h4 : (embAll rs ls s).length < s.size
  · obtain ⟨e1, e2⟩ := embF3 HL.out HG.out H2.out h4
    have E1 := Lib.hid e1; have E2 := Lib.hid e2
    clear e1 e2
    go_wp2_with fail
    go_ret2
    rw [E1.out, E2.out]
    exact ⟨none, 0, rfl, World.ownsRow_nil _ _ _ _, b4⟩
  · obtain ⟨e1, e2⟩ := embF4 HL.out HG.out H2.out h4
    have E1 := Lib.hid e1; have E2 := Lib.hid e2
    clear e1 e2
    go_wp2_with fail
    go_ret2
    rw [E1.out, E2.out]
    exact ⟨A4, c4, rfl, O4.out.mono b3.size, b4⟩
end Go.Proofs.Ytecnkmndmnefdaa


/-
  Words scattered one behind the other: what is told of the word.
-/
namespace Go.Proofs.Ytecnkmndmnefdaa

/-- how many letters of the powers of P, from the place o on, are met in order -/
def mtc (P : List Nat) : Nat → List Nat → Nat
  | _, [] => 0
  | o, x :: r => if P.getD o 0 = x then 1 + mtc P ((o + 1) % P.length) r else mtc P o r
theorem mtc_app (P : List Nat) : ∀ (u v : List Nat) (o : Nat), o < P.length → mtc P o (u ++ v) = mtc P o u + mtc P ((o + mtc P o u) % P.length) v
  | [], v, o, h => by simp [mtc, Nat.mod_eq_of_lt h]
  | x :: r, v, o, h => by
    have hp : 0 < P.length := by omega
    rw [List.cons_append, mtc, mtc]
    by_cases hx : P.getD o 0 = x
    · rw [if_pos hx, if_pos hx, mtc_app P r v _ (Nat.mod_lt _ hp), Nat.mod_add_mod, show o + (1 + mtc P ((o + 1) % P.length) r) = o + 1 + mtc P ((o + 1) % P.length) r by omega]; omega
    · rw [if_neg hx, if_neg hx, mtc_app P r v o h]
theorem mtc_le (P : List Nat) : ∀ (u : List Nat) (o : Nat), mtc P o u ≤ u.length
  | [], _ => by simp [mtc]
  | x :: r, o => by
    rw [mtc]
    have h1 := mtc_le P r ((o + 1) % P.length)
    have h2 := mtc_le P r o
    split <;> simp <;> omega
/-- each round takes one of the first letter -/
theorem mtc_first (P : List Nat) : ∀ (u : List Nat) (o : Nat), o < P.length → mtc P o u ≤ P.length * u.count (P.getD 0 0) + (if o = 0 then 0 else P.length - o)
  | [], o, h => by simp [mtc]
  | x :: r, o, h => by
    have hp : 0 < P.length := by omega
    rw [mtc, List.count_cons]
    have hc : P.length * (r.count (P.getD 0 0) + 1) = P.length * r.count (P.getD 0 0) + P.length := by rw [Nat.mul_add, Nat.mul_one]
    by_cases hx : P.getD o 0 = x
    · rw [if_pos hx]
      have ih := mtc_first P r ((o + 1) % P.length) (Nat.mod_lt _ hp)
      by_cases ho : o = 0
      · subst ho
        rw [if_pos rfl, show (x == P.getD 0 0) = true by rw [hx]; simp, if_pos rfl, hc]
        by_cases h1 : P.length = 1
        · rw [h1] at ih ⊢
          simp at ih ⊢
          omega
        · rw [Nat.mod_eq_of_lt (by omega), if_neg (by omega)] at ih
          rw [Nat.mod_eq_of_lt (show 0 + 1 < P.length by omega)]
          omega
      · rw [if_neg ho]
        have h0 : P.length * r.count (P.getD 0 0) ≤ P.length * (r.count (P.getD 0 0) + if (x == P.getD 0 0) = true then 1 else 0) := Nat.mul_le_mul_left _ (by omega)
        by_cases h1 : o + 1 = P.length
        · rw [h1, Nat.mod_self, if_pos rfl] at ih
          rw [h1, Nat.mod_self]
          omega
        · rw [Nat.mod_eq_of_lt (by omega), if_neg (by omega)] at ih
          rw [Nat.mod_eq_of_lt (show o + 1 < P.length by omega)]
          omega
    · rw [if_neg hx]
      have ih := mtc_first P r o h
      have h0 : P.length * r.count (P.getD 0 0) ≤ P.length * (r.count (P.getD 0 0) + if (x == P.getD 0 0) = true then 1 else 0) := Nat.mul_le_mul_left _ (by omega)
      omega
theorem mtc_one (y : Nat) : ∀ u : List Nat, mtc [y] 0 u = u.count y
  | [] => rfl
  | x :: r => by
    rw [mtc, List.count_cons]
    show (if y = x then 1 + mtc [y] ((0 + 1) % 1) r else mtc [y] 0 r) = _
    rw [show (0 + 1) % 1 = 0 by omega, mtc_one y r]
    by_cases h : y = x
    · rw [if_pos h, if_pos (by simp [h])]; omega
    · rw [if_neg h, if_neg (by simp; exact fun e => h e.symm)]; omega
theorem nums_tx {u : List Nat} (h : ∀ x ∈ u, x < 4) : nums (tx u) = u := by
  unfold nums
  rw [tx_toList]
  unfold txB
  rw [List.map_map]
  conv => rhs; rw [← List.map_id u]
  refine List.map_congr_left fun x hx => ?_
  have := h x hx
  show (UInt8.ofNat (97 + x)).toNat - 97 = x
  rw [UInt8.toNat_ofNat']; omega
theorem okW_tx {u : List Nat} (h : ∀ x ∈ u, x < 4) (hl : u.length ≤ 2000) : okW (tx u) = true := by
  rw [okW_all (by rw [tx_size]; exact hl)]
  exact tx_let h
section
variable {rs : List Fac} {P : List Nat}
theorem spAll_word (hwf : WF rs) (hP : ∀ x ∈ P, x < 4) (h0 : 0 < P.length) {k : Nat} (hk : k < rs.length) : (spAll (tx P) rs).getD k [] = (List.range P.length).map fun o => (mtc P o ((wds rs).getD k []) : Int) := by
  have hsz : (tx P).size = P.length := tx_size P
  refine full_hom (d := []) (F := spF (tx P)) (G := spG (tx P).size) hwf (fun u => (List.range P.length).map fun o => (mtc P o u : Int)) (fun l hl => ?_) (fun u v r _ _ _ _ => ?_) k hk
  · unfold spF
    rw [hsz]
    refine List.map_congr_left fun o ho => ?_
    have ho' := List.mem_range.1 ho
    have hPo : P.getD o 0 < 4 := by
      rw [List.getD_eq_getElem?_getD, List.getElem?_eq_getElem ho']; exact hP _ (List.getElem_mem ho')
    unfold spI
    have e : (((tx P).data.toList.getD o 0).toNat - 97) = P.getD o 0 := by
      rw [tx_toList, List.getD_eq_getElem?_getD, List.getElem?_eq_getElem (by simp [txB]; exact ho')]
      simp only [txB, List.getElem_map, Option.getD_some]
      rw [List.getD_eq_getElem?_getD, List.getElem?_eq_getElem ho'] at hPo ⊢
      simp only [Option.getD_some] at hPo ⊢
      rw [UInt8.toNat_ofNat']; omega
    rw [e]
    show _ = ((mtc P o [l] : Nat) : Int)
    rw [mtc]
    split
    · rfl
    · rfl
  · unfold spG
    rw [hsz]
    refine List.map_congr_left fun o ho => ?_
    have ho' := List.mem_range.1 ho
    unfold spJ
    rw [rng_at (fun o => (mtc P o u : Int)) ho']
    have hm : (((o : Int) + (mtc P o u : Int)) % (P.length : Int)).toNat = (o + mtc P o u) % P.length := by
      have h2 : ((o : Int) + (mtc P o u : Int)) % (P.length : Int) = (((o + mtc P o u) % P.length : Nat) : Int) := by rw [Int.natCast_emod, Int.natCast_add]
      omega
    rw [hm, rng_at (fun o => (mtc P o v : Int)) (Nat.mod_lt _ h0), mtc_app P u v o ho']; omega
theorem spTop_word (hwf : WF rs) (hP : ∀ x ∈ P, x < 4) (h0 : 0 < P.length) : spTop rs (tx P) = (mtc P 0 (wdN rs) : Int) := by
  unfold spTop wdN
  by_cases h : rs = []
  · subst h; rfl
  · have h1 : rs.length ≠ 0 := fun e => h (List.eq_nil_of_length_eq_zero e)
    rw [if_neg h1, if_neg h, spAll_word hwf hP h0 (by omega), rng_at (fun o => (mtc P o ((wds rs).getD (rs.length - 1) []) : Int)) h0]
end
/-- how many letters of a list are met in order -/
def gm : List Nat → List Nat → Nat
  | [], _ => 0
  | x :: u, q => match q with
    | [] => 0
    | y :: q' => if y = x then 1 + gm u q' else gm u (y :: q')
theorem gm_nil (u : List Nat) : gm u [] = 0 := by cases u <;> rfl
theorem gm_cons (x y : Nat) (u q : List Nat) : gm (x :: u) (y :: q) = if y = x then 1 + gm u q else gm u (y :: q) := rfl
theorem gm_skip {l : Nat} : ∀ {m : List Nat} (v q : List Nat), cn l m = 0 → gm (m ++ v) (l :: q) = gm v (l :: q)
  | [], _, _, _ => rfl
  | x :: m, v, q, h => by
    rw [cn_cons] at h
    have := cn_nn l m
    by_cases hx : x = l
    · rw [if_pos hx] at h; omega
    · rw [if_neg hx] at h
      rw [List.cons_append, gm_cons, if_neg (fun e => hx e.symm), gm_skip v q (by omega)]
theorem gm_none {l : Nat} {v : List Nat} (q : List Nat) (h : cn l v = 0) : gm v (l :: q) = 0 := by
  have := gm_skip (m := v) [] q h
  rw [List.append_nil] at this
  rw [this]; rfl
theorem cn_take_le (l : Nat) (u : List Nat) {i j : Nat} (h : i ≤ j) : cn l (u.take i) ≤ cn l (u.take j) := by
  have e : u.take j = u.take i ++ (u.drop i).take (j - i) := by rw [show j = i + (j - i) by omega, List.take_add]; congr 2; omega
  have := cn_nn l ((u.drop i).take (j - i))
  rw [e, cn_app]; omega
theorem cn_take_succ {l : Nat} {u : List Nat} {j : Nat} (h : u[j]? = some l) : cn l (u.take (j + 1)) = cn l (u.take j) + 1 := by
  obtain ⟨hj, e⟩ := List.getElem?_eq_some_iff.1 h
  rw [List.take_succ_eq_append_getElem hj, cn_app, e, cn_cons, if_pos rfl, cn_nil]; omega
section
variable {rs : List Fac} {ls : List Int}
theorem embGo_word (hls : gLens rs [] = some ls) : ∀ (pl : List UInt8) (nx : Nat), pl.all letB = true → (embGo rs ls pl nx).length = gm ((wdN rs).drop nx) (pl.map numC)
  | [], nx, _ => by rw [List.map_nil, gm_nil]; rfl
  | c :: r, nx, h => by
    have hwf := wf_of hls
    simp only [List.all_cons, Bool.and_eq_true] at h
    have hb := letB_num h.1
    obtain ⟨l, hl⟩ : ∃ l, c.toNat - 97 = l := ⟨_, rfl⟩
    have h4 : l < 4 := by omega
    rw [embGo, hl, topQ_word hwf, cq_at _ h4, rkT_word hls h4, Int.toNat_natCast, List.map_cons, show numC c = l from hl]
    have hsp : cn l (wdN rs) = cn l ((wdN rs).take nx) + cn l ((wdN rs).drop nx) := by rw [← cn_app, List.take_append_drop]
    have hn := cn_nn l ((wdN rs).drop nx)
    by_cases hle : cn l (wdN rs) ≤ cn l ((wdN rs).take nx)
    · rw [if_pos hle, gm_none _ (by omega)]; rfl
    · rw [if_neg hle]
      obtain ⟨j, e1, e2, e3⟩ := sel_word hls h4 (k := cn l ((wdN rs).take nx)) (cn_nn _ _) (by omega)
      have en : nextAt rs ls l nx = (j : Int) := by unfold nextAt; rw [rkT_word hls h4, Int.toNat_natCast]; exact e1
      have hj := (List.getElem?_eq_some_iff.1 e2).1
      have hjn : nx ≤ j := by
        rcases Nat.lt_or_ge j nx with h5 | h5
        · have h6 := cn_take_le l (wdN rs) (show j + 1 ≤ nx by omega)
          rw [cn_take_succ e2] at h6; omega
        · exact h5
      have hd : (wdN rs).drop nx = ((wdN rs).drop nx).take (j - nx) ++ (l :: (wdN rs).drop (j + 1)) := by
        have e5 : (wdN rs).drop j = l :: (wdN rs).drop (j + 1) := by rw [List.drop_eq_getElem_cons hj, (List.getElem?_eq_some_iff.1 e2).2]
        rw [← e5]
        conv => lhs; rw [← List.take_append_drop (j - nx) ((wdN rs).drop nx)]
        rw [List.drop_drop, show nx + (j - nx) = j by omega]
      have hz : cn l (((wdN rs).drop nx).take (j - nx)) = 0 := by
        have e6 : (wdN rs).take j = (wdN rs).take nx ++ ((wdN rs).drop nx).take (j - nx) := by rw [show j = nx + (j - nx) by omega, List.take_add]; congr 2; omega
        rw [e6, cn_app] at e3; omega
      rw [en, List.length_cons, show ((j : Int) + 1) = ((j + 1 : Nat) : Int) by omega, embGo_word hls r (j + 1) h.2, hd, gm_skip _ _ hz, gm_cons, if_pos rfl]
      omega
end
/-- the letters of the powers, from a place on -/
def cyc (P : List Nat) : Nat → Nat → List Nat
  | _, 0 => []
  | o, n + 1 => P.getD o 0 :: cyc P ((o + 1) % P.length) n
theorem gm_cyc (P : List Nat) : ∀ (u : List Nat) (o n : Nat), gm u (cyc P o n) = min n (mtc P o u)
  | [], o, n => by simp [gm, mtc]
  | x :: u, o, 0 => by rw [cyc, gm_nil]; simp
  | x :: u, o, n + 1 => by
    rw [cyc, gm_cons, mtc]
    by_cases h : P.getD o 0 = x
    · rw [if_pos h, if_pos h, gm_cyc P u]; omega
    · rw [if_neg h, if_neg h]
      have := gm_cyc P u o (n + 1)
      rw [cyc] at this
      exact this
theorem cyc_add (P : List Nat) : ∀ (m n o : Nat), o < P.length → cyc P o (m + n) = cyc P o m ++ cyc P ((o + m) % P.length) n
  | 0, n, o, h => by simp [cyc, Nat.mod_eq_of_lt h]
  | m + 1, n, o, h => by
    rw [show m + 1 + n = (m + n) + 1 by omega, cyc, cyc, cyc_add P m n _ (Nat.mod_lt _ (by omega)), Nat.mod_add_mod, show o + 1 + m = o + (m + 1) by omega]; rfl
theorem cyc_drop (P : List Nat) : ∀ (d o : Nat), o + d = P.length → cyc P o d = P.drop o
  | 0, o, h => by rw [List.drop_of_length_le (by omega)]; rfl
  | d + 1, o, h => by
    rw [cyc, List.drop_eq_getElem_cons (by omega), List.getD_eq_getElem?_getD, List.getElem?_eq_getElem (by omega)]
    congr 1
    by_cases h1 : o + 1 = P.length
    · have : d = 0 := by omega
      subst this
      rw [List.drop_of_length_le (by omega)]; rfl
    · rw [Nat.mod_eq_of_lt (by omega)]
      exact cyc_drop P d (o + 1) (by omega)
theorem cyc_rep (P : List Nat) (h : 0 < P.length) : ∀ k, cyc P 0 (k * P.length) = rep P k
  | 0 => by rw [Nat.zero_mul]; rfl
  | k + 1 => by
    rw [Nat.succ_mul, cyc_add P _ _ _ h, cyc_rep P h k, Nat.zero_add, Nat.mul_mod_left, cyc_drop P P.length 0 (by omega)]; rfl
theorem rep_let {P : List Nat} (h : ∀ x ∈ P, x < 4) : ∀ k, ∀ x ∈ rep P k, x < 4
  | 0, x, hx => by simp [rep] at hx
  | k + 1, x, hx => by
    rcases List.mem_append.1 hx with hx | hx
    · exact rep_let h k x hx
    · exact h x hx
/-- the code of the search for a power -/
theorem embFC_rep {rs : List Fac} {P : List Nat} (hg : (gOk rs).isSome = true) (hP : ∀ x ∈ P, x < 4) (h0 : 0 < P.length) {k : Nat} (hk : k * P.length ≤ 2000) :
    embFC rs (tx (rep P k)) = if k * P.length ≤ mtc P 0 (wdN rs) then 0 else 6 := by
  obtain ⟨ls, hls⟩ := Option.isSome_iff_exists.1 hg
  have hls' := (gOk_lens hls).1
  have hl : (rep P k).length = k * P.length := rep_len P k
  have hR := rep_let hP k
  unfold embFC
  rw [if_neg (by rw [hg]; decide), if_neg (by rw [okW_tx hR (by omega)]; decide), hls', tx_size, hl]
  show (if (embAll rs ls (tx (rep P k))).length < _ then (6 : Int) else 0) = _
  unfold embAll
  rw [show (0 : Int) = ((0 : Nat) : Int) from rfl, embGo_word hls' _ 0 (tx_let hR), List.drop_zero]
  rw [show (tx (rep P k)).data.toList.map numC = nums (tx (rep P k)) from rfl, nums_tx hR, ← cyc_rep P h0 k, gm_cyc]
  by_cases h : k * P.length ≤ mtc P 0 (wdN rs)
  · rw [if_pos h, if_neg (by omega)]
  · rw [if_neg h, if_pos (by omega)]
end Go.Proofs.Ytecnkmndmnefdaa


/-
  The reader of choices: what it hands back lies within bounds.
-/
namespace Go.Proofs.Ytecnkmndmnefdaa
open Go.RowKit

def byteE (b : UInt8) : List Value := [.int .u8 (b.toNat : Int)]
def U64 (z : Int) : Prop := 0 ≤ z ∧ z < 18446744073709551616
/-- block g is a reader that has read at most K bytes -/
def Src (w : World) (g K : Nat) : Prop := ∃ (A : Option Addr) (n c k : Nat) (bs : List UInt8) (z : Int), k ≤ K ∧ n ≤ 4096 ∧ U64 z ∧ Blk w g 102 #[.slice A n c, .int .i64 k, .int .u64 z] ∧ Rd w g A n 1 byteE bs
/-- what a draw below m leaves -/
def Draw (w : World) (g K : Nat) (m : Int) (e : Ending) (w' : World) : Prop := ∃ v : Int, e = .returned (.int .i64 v) ∧ 0 ≤ v ∧ v < m ∧ Src w' g K ∧ w.grownBy w' (some g)
theorem Rd.byte {w : World} {B n : Nat} {A : Option Addr} {xs : List UInt8} {k : Nat} (h : Rd w B A n 1 byteE xs) (hk : k < n) :
    ∃ b o x, A = some ⟨b, o, none⟩ ∧ b < B ∧ xs[k]? = some x ∧ w.cell? ⟨b, o + k, none⟩ = some (.int .u8 (x.toNat : Int)) := by
  obtain ⟨b, o, hA, hb, x, hx, hc⟩ := h.at_ hk
  exact ⟨b, o, x, hA, hb, hx, by simpa using hc 0 _ rfl⟩
theorem Src.keep {w w' : World} {g K : Nat} (h : Src w g K) (hb : w'.heap[g]? = w.heap[g]?) (hr : ∀ p : Addr, p.block < g → w'.cell? p = w.cell? p) : Src w' g K := by
  obtain ⟨A, n, c, k, bs, z, h1, h2, h3, h4, h5⟩ := h
  exact ⟨A, n, c, k, bs, z, h1, h2, h3, hb.trans h4, h5.keep hr⟩

theorem wraps_63 (n : Int) (h₀ : 0 ≤ n) (h₁ : n < 2 ^ 63) : IntKind.u64.wrap n = n := by rw [IntKind.wrap_u64]; omega
theorem and_255 (z : Int) (h0 : 0 ≤ z) (h1 : z < 18446744073709551616) : 0 ≤ wrap64 (bits .and .u64 (z / 1099511627776) 255) ∧ wrap64 (bits .and .u64 (z / 1099511627776) 255) < 256 := by
  have h := bits_mask .u64 63 (by decide) wraps_63 8 (by decide) (z / 1099511627776) (by omega) (by omega)
  have e : ((2 : Int) ^ 8 - 1) = 255 := by decide
  have e2 : ((2 : Int) ^ 8) = 256 := by decide
  rw [e, e2] at h
  rw [h, IntWalk.wrap64_in _ (by omega)]
  omega
theorem u64_of (z : Int) : U64 (IntKind.u64.wrap z) := by
  unfold U64; rw [IntKind.wrap_u64]; omega
set_option maxHeartbeats 1000000 in
theorem next_any (g K : Nat) (w : World) (h : Src w g K) (hK : K ≤ 1000000000) :
    Calls Try.prog 86 #[.pointer (some ⟨g, 0, none⟩)] w (Draw w g (K + 1) 256) := by
  obtain ⟨A, n, c, k, bs, z, hk, hn, hz, hB, hr⟩ := h
  have hg := hB.lt
  obtain ⟨c0, c1, c2⟩ := hB.three
  have hup := upc w.heap.size w
  by_cases hlt : k < n
  · obtain ⟨b, o, x, rfl, hb, gx, cx⟩ := hr.byte hlt
    have hxx : (x.toNat : Int) < 256 := by have := x.toNat_lt; omega
    have i1 : (0 : Int) ≤ k := by omega
    have i2 : (k : Int) < n := by omega
    have i3 : (k : Int) + 1 ≤ n := by omega
    go_enter Try.func86, Try.ntmps86
    go_wp2_with fail
    refine wp_region_up w.heap.size (by kernel_rfl) (by kernel_rfl) ?_
    repeat (go_big_quiet_step (fail))
    refine wpQuiet_nil ?_
    intro w2 hup_w2
    have hb2 := up_of hup_w2
    have hB2 := hB.next hb2
    have hg2 := hB2.lt
    have hbb2 : b < w2.heap.size := by omega
    obtain ⟨d0, d1, d2⟩ := hB2.three
    have hu2 := upc w2.heap.size w2
    have cx2 := (hb2.cell (p := ⟨b, o + k, none⟩) (by show b < _; omega)).trans cx
    go_wp2_with fail
    refine wp_region_up w2.heap.size (by kernel_rfl) (by kernel_rfl) ?_
    repeat (go_big_quiet_step (fail))
    refine wpQuiet_nil ?_
    intro w3 hup_w3
    have hb3 := up_of hup_w3
    have hB3 := hB2.next hb3
    have hg3 := hB3.lt
    obtain ⟨e0, e1, e2⟩ := hB3.three
    have f3 := hB3.frozen
    go_wp2_with fail
    refine named fun w4 H4 => ?_
    obtain ⟨z', hz', hB4⟩ : ∃ z', U64 z' ∧ Blk w4 g 102 #[.slice (some ⟨b, o, none⟩) n c, .int .i64 ((k + 1 : Nat) : Int), .int .u64 z'] := by
      rw [H4.out]; exact ⟨_, u64_of _, (hB3.set_ 1 _).set_ 2 _⟩
    have hg4 := hB4.lt
    obtain ⟨x0, x1, x2⟩ := hB4.three
    have hu4 := upc w4.heap.size w4
    have hz0 := hz'.1; have hz1 := hz'.2
    clear hu2 hup
    refine wp_region_up w4.heap.size (by kernel_rfl) (by kernel_rfl) ?_
    repeat (go_big_quiet_step (fail))
    refine wpQuiet_nil ?_
    intro w5 hup_w5
    have hb5 := up_of hup_w5
    go_wp2_with fail
    go_ret
    refine ⟨_, rfl, by omega, hxx, ⟨_, n, c, k + 1, bs, z', by omega, hn, hz', hB4.next hb5, ?_⟩, ?_⟩
    · have g4 : w3.grownBy w4 (some g) := by rw [H4.out]; exact gb_setCell (gb_set _ _ _ _) _ _
      exact ((((hr.keep fun p hp => hb2.cell (by omega)).keep fun p hp => hb3.cell (by omega)).grown (by omega) g4 (fun k e => by injection e; omega)).keep fun p hp => hb5.cell (by omega))
    · have g4 : w3.grownBy w4 (some g) := by rw [H4.out]; exact gb_setCell (gb_set _ _ _ _) _ _
      exact gb_next (gb_trans (gb_next (gb_below hb2) hb3) g4) hb5
  · have i2 : (n : Int) ≤ k := by omega
    go_enter Try.func86, Try.ntmps86
    go_wp2_with fail
    refine wp_region_up w.heap.size (by kernel_rfl) (by kernel_rfl) ?_
    repeat (go_big_quiet_step (fail))
    refine wpQuiet_nil ?_
    intro w3 hup_w3
    have hb3 := up_of hup_w3
    have hB3 := hB.next hb3
    have hg3 := hB3.lt
    obtain ⟨e0, e1, e2⟩ := hB3.three
    have f3 := hB3.frozen
    go_wp2_with fail
    refine named fun w4 H4 => ?_
    obtain ⟨z', hz', hB4⟩ : ∃ z', U64 z' ∧ Blk w4 g 102 #[.slice A n c, .int .i64 ((k + 1 : Nat) : Int), .int .u64 z'] := by
      rw [H4.out]; exact ⟨_, u64_of _, (hB3.set_ 1 _).set_ 2 _⟩
    have hg4 := hB4.lt
    obtain ⟨x0, x1, x2⟩ := hB4.three
    have hu4 := upc w4.heap.size w4
    have hz0 := hz'.1; have hz1 := hz'.2
    clear hup
    refine wp_region_up w4.heap.size (by kernel_rfl) (by kernel_rfl) ?_
    repeat (go_big_quiet_step (fail))
    refine wpQuiet_nil ?_
    intro w5 hup_w5
    have hb5 := up_of hup_w5
    have hB5 := hB4.next hb5
    obtain ⟨y0, y1, y2⟩ := hB5.three
    go_wp2_with fail
    go_ret
    have hand := and_255 z' hz0 hz1
    have g4 : w3.grownBy w4 (some g) := by rw [H4.out]; exact gb_setCell (gb_set _ _ _ _) _ _
    exact ⟨_, rfl, hand.1, hand.2, ⟨_, n, c, k + 1, bs, z', by omega, hn, hz', hB5,
      (((hr.keep fun p hp => hb3.cell (by omega)).grown (by omega) g4 (fun k e => by injection e; omega)).keep fun p hp => hb5.cell (by omega))⟩, gb_next (gb_trans (gb_below hb3) g4) hb5⟩
theorem Src.mono {w : World} {g K K' : Nat} (h : Src w g K) (hK : K ≤ K') : Src w g K' := by
  obtain ⟨A, n, c, k, bs, z, h1, h2⟩ := h
  exact ⟨A, n, c, k, bs, z, by omega, h2⟩
theorem Src.next {w w' : World} {g K : Nat} (h : Src w g K) (hb : Below w.heap.size w w') : Src w' g K := by
  obtain ⟨A, n, c, k, bs, z, h1, h2, h3, h4, h5⟩ := h
  have := h4.lt
  exact ⟨A, n, c, k, bs, z, h1, h2, h3, h4.next hb, h5.keep fun p hp => hb.cell (by omega)⟩
theorem Src.lt {w : World} {g K : Nat} (h : Src w g K) : g < w.heap.size := by
  obtain ⟨A, n, c, k, bs, z, h1, h2, h3, h4, h5⟩ := h
  exact h4.lt
/-- a write to another block that lies behind -/
theorem Src.grown {w w' : World} {g K : Nat} {r : Option Nat} (h : Src w g K) (hg : w.grownBy w' r) (hr : ∀ k, r = some k → g < k) : Src w' g K := by
  obtain ⟨A, n, c, k, bs, z, h1, h2, h3, h4, h5⟩ := h
  have := h4.lt
  exact ⟨A, n, c, k, bs, z, h1, h2, h3, h4.grown hg (fun e => by have := hr _ e.symm; omega), h5.grown (by omega) hg (fun k e => by have := hr _ e; omega)⟩

set_option maxHeartbeats 400000 in
theorem pick_any (g K : Nat) (n m : Int) (w : World) (h : Src w g K) (hK : K ≤ 100000000) (hn : n ≤ m) (hm : 1 ≤ m) :
    Calls Try.prog 43 #[.pointer (some ⟨g, 0, none⟩), .int .i64 n] w (Draw w g (K + 2) m) := by
  by_cases h1 : n ≤ 1
  · go_enter Try.func43, Try.ntmps43
    go_wp2_with fail
    go_ret
    exact ⟨0, rfl, by omega, by omega, h.mono (by omega), World.grownBy.refl _ _⟩
  by_cases h2 : n ≤ 200
  · go_enter Try.func43, Try.ntmps43
    go_wp2_with fail
    refine (next_any g K _ h (by omega)).mono ?_
    rintro e w1 ⟨v, rfl, v0, v1, s1, g1⟩
    go_wp2_with fail
    go_ret
    exact ⟨_, rfl, Int.emod_nonneg _ (by omega), by have := Int.emod_lt_of_pos v (show 0 < n by omega); omega, s1.mono (by omega), g1⟩
  · go_enter Try.func43, Try.ntmps43
    go_wp2_with fail
    refine (next_any g K _ h (by omega)).mono ?_
    rintro e w1 ⟨v, rfl, v0, v1, s1, g1⟩
    go_wp2_with fail
    refine (next_any g (K + 1) _ s1 (by omega)).mono ?_
    rintro e w2 ⟨v', rfl, v0', v1', s2, g2⟩
    go_wp2_with fail
    go_ret
    exact ⟨_, rfl, Int.emod_nonneg _ (by omega), by have := Int.emod_lt_of_pos (v * 256 + v') (show 0 < n by omega); omega, s2, gb_trans g1 g2⟩
def DrawB (w : World) (g K : Nat) (e : Ending) (w' : World) : Prop := ∃ b : Bool, e = .returned (.bool b) ∧ Src w' g K ∧ w.grownBy w' (some g)
theorem one_any (g K : Nat) (n : Int) (w : World) (h : Src w g K) (hK : K ≤ 100000000) (hn : n ≤ 1000) :
    Calls Try.prog 66 #[.pointer (some ⟨g, 0, none⟩), .int .i64 n] w (DrawB w g (K + 2)) := by
  go_enter Try.func66, Try.ntmps66
  go_wp2_with fail
  refine (pick_any g K n 1000 _ h hK hn (by omega)).mono ?_
  rintro e w1 ⟨v, rfl, v0, v1, s1, g1⟩
  go_wp2_with fail
  go_ret
  exact ⟨_, rfl, s1, g1⟩
end Go.Proofs.Ytecnkmndmnefdaa


/-
  The draw of a plain word: its letters are right, and it is not too long.
-/
namespace Go.Proofs.Ytecnkmndmnefdaa
open Go.RowKit

theorem elem_byte : Elem Try.prog 22 5 1 1 := Elem.mk' (z := .int .u8 0) Try.underlying22 (by kernel_rfl) rfl
/-- what the draw of a word leaves -/
def StrDraw (w : World) (g K : Nat) (most : Int) (e : Ending) (w' : World) : Prop :=
  ∃ s : ByteArray, e = .returned (.string s) ∧ (s.size : Int) ≤ most ∧ s.data.toList.all letB = true ∧ Src w' g K ∧ w.grownBy w' (some g)
theorem byteE_of {v : Int} (h0 : 0 ≤ v) (h1 : v < 4) : #[Value.int .u8 (97 + v)].toList = byteE (UInt8.ofNat (97 + v.toNat)) ∧ letB (UInt8.ofNat (97 + v.toNat)) = true := by
  obtain ⟨j, rfl⟩ := Int.eq_ofNat_of_zero_le h0
  have e : (UInt8.ofNat (97 + j)).toNat = 97 + j := by rw [UInt8.toNat_ofNat']; omega
  constructor
  · simp only [byteE, Int.toNat_natCast, e]; simp
  · simp only [letB, Int.toNat_natCast, e]; simp; omega

theorem conv_own {w : World} {base n c : Nat} {A : Option Addr} {bs : List UInt8} (h : w.ownsRow base 5 1 (.slice A n c) n (bs.flatMap byteE)) (hl : bs.length = n) :
    (convert 22 9 (.slice A n c)).run Try.prog w = .ok (.string ⟨bs.toArray⟩) w := by
  subst hl
  cases A with
  | some a =>
    refine run_convert_bytes_back (P := Try.prog) w _ _ 5 a c bs Try.underlying22 Try.underlying5 Try.underlying9 fun j hj => ?_
    obtain ⟨g, cap, hv, _, _⟩ := h.form (by omega)
    obtain rfl := Option.some.inj (show some a = some ⟨g, 0, none⟩ from by injection hv)
    have := h.cells (g := g) rfl j _ (by
      have := flat_at (enc := byteE) (sz := 1) bs (fun _ _ => rfl) j _ (List.getElem?_eq_getElem hj) 0 (by omega)
      rw [Nat.mul_one, Nat.add_zero] at this
      rw [this]; rfl)
    simpa using this
  | none =>
    rcases h.2 with ⟨h1, h2⟩ | ⟨g, cap, cur, hv, _⟩
    · obtain rfl : bs = [] := List.eq_nil_of_length_eq_zero (by omega)
      rw [run_convert_bytes_string w _ _ 5 none _ c Try.underlying22 Try.underlying5 Try.underlying9]
      simp [Conv.bytesToString, go_sem]
      rfl
    · cases hv
theorem ext_let {s : ByteArray} (h : s.data.toList.all letB = true) (i j : Nat) : (s.extract i j).data.toList.all letB = true := by
  rw [ByteArray.data_extract, Array.toList_extract]
  rw [List.all_eq_true] at *
  intro x hx
  exact h x (List.mem_of_mem_drop (List.mem_of_mem_take hx))
set_option maxHeartbeats 1000000 in
set_option maxRecDepth 100000 in
theorem l01Drawn_any (g K : Nat) (most : Int) (w : World) (h : Src w g K) (hK : K ≤ 10000000) (hm0 : 0 ≤ most) (hm : most ≤ 100000) :
    Calls Try.prog 65 #[.pointer (some ⟨g, 0, none⟩), .int .i64 most] w (StrDraw w g (K + 1000000) most) := by
  have hg := h.lt
  go_enter Try.func65, Try.ntmps65
  go_wp2_with fail
  refine (pick_any g K 3 3 _ h (by omega) (by omega) (by omega)).mono ?_
  rintro e w1 ⟨v, rfl, v0, v1, s1, g1⟩
  go_wp2_with fail
  have g1' := gb_trans g1 (World.grownBy_alloc w1 (.cells #[] 5) _)
  refine (pick_any g (K + 2) (most + 1) (most + 1) _ (s1.grown (World.grownBy_alloc w1 (.cells #[] 5) none) (fun k e => by cases e)) (by omega) (by omega) (by omega)).mono ?_
  rintro e w2 ⟨k, rfl, k0, k1, s2, g2⟩
  have g2' := Lib.hid (gb_trans g1' g2)
  have own2 := Lib.hid (own_kept (by simpa using World.ownsRow_made (base := w.heap.size) (e := 5) (size := 1) w1 #[] 0 (by have := g1.size; omega) (by unfold maxLen; omega) rfl) g2 hg)
  have S2 := Lib.hid s2
  clear s2 g2 g1' g1 s1 h
  go_wp2_with fail
  go_loopw [6, 7] (fun o_ k_ w' => ∃ (z : Int) (out : List UInt8) (A : Option Addr) (n c : Nat), k_ = .int .i64 z ∧ o_ = .slice A n c ∧ 0 ≤ z ∧ (n : Int) + z ≤ most ∧ Hid (out.length = n) ∧
      Hid (w'.ownsRow w.heap.size 5 1 (.slice A n c) n (out.flatMap byteE)) ∧ Hid (out.all letB = true) ∧ Hid (Src w' g (K + 4 + 2 * n)) ∧ Hid (w.grownBy w' (some g))) (fun _ k_ _ => (intOf k_).toNat)
  case atStart => exact ⟨k, [], _, 0, 0, rfl, rfl, k0, by omega, Lib.hid rfl, own2, Lib.hid rfl, S2, g2'⟩
  case round =>
    obtain ⟨z, out, A, n, c, rfl, rfl, hz0, hz1, ho, hown, hlet, hs, hgr⟩ := hrel
    by_cases hlt : 0 < z
    · go_wp2_with fail
      refine (pick_any g (K + 4 + 2 * n) (1 + v) 3 _ hs.out (by omega) (by omega) (by omega)).mono ?_
      rintro e w3 ⟨u, rfl, u0, u1, s3, g3⟩
      obtain ⟨hb1, hb2⟩ := byteE_of u0 (show u < 4 by omega)
      have Hb1 := Lib.hid hb1; have Hb2 := Lib.hid hb2; clear hb1 hb2
      have own3 := Lib.hid (own_kept hown.out g3 hg)
      have gr3 := Lib.hid (gb_trans hgr.out g3)
      have sz3 := gr3.out.size
      have S3 := Lib.hid s3; clear s3
      have G3 := Lib.hid g3; clear g3
      go_wp2_with
        (at_builtin
         refine wpList_pushG rfl _ _ _ rfl w.heap.size 5 1 1 elem_byte byteE A n c out rfl (own3.out.alloc _) w3.heap.size (UInt8.ofNat (97 + u.toNat)) #[.int .u8 (97 + u)] 5 (0, 0) rfl (heap_alloc_new _ _) Hb1.out rfl (by simp [byteE, Value.oneCell']) (by omega) (by omega) (by unfold maxLen; omega) (by simp; omega) ?_
         intro A' c' w4 own4 hg4 hat4
         have Own4 := Lib.hid own4; clear own4
         have Gr4 := Lib.hid (gb_weak' (gb_trans gr3.out (World.grownBy_alloc _ _ _)) hg4 (own_ge own3.out))
         have S4 := Lib.hid ((S3.out.grown (World.grownBy_alloc _ _ none) (fun k e => by cases e)).grown hg4 (fun k e => by have := own_ge own3.out k e; omega))
         clear hat4 hg4)
      go_roundw
      case rel => exact ⟨z - 1, out ++ [UInt8.ofNat (97 + u.toNat)], A', n + 1, c', by go_num, rfl, by omega, by omega, Lib.hid (by rw [List.length_append, ho.out]; rfl), Own4, Lib.hid (by rw [List.all_append, hlet.out]; simpa using Hb2.out), Lib.hid (S4.out.mono (by omega)), Gr4⟩
      case measure => simp [intOf]; omega
    · have hcv := conv_own hown.out ho.out
      go_wp2_with fail
      refine (one_any g (K + 4 + 2 * n) 3 _ hs.out (by omega) (by omega)).mono ?_
      rintro e w3 ⟨b, rfl, s3, g3⟩
      have gr3 := Lib.hid (gb_trans hgr.out g3)
      have S3 := Lib.hid s3; clear s3 g3
      have hsz : (⟨out.toArray⟩ : ByteArray).size = n := by rw [← ho.out]; simp [ByteArray.size]
      have Hlet : Hid ((⟨out.toArray⟩ : ByteArray).data.toList.all letB = true) := by simpa using hlet
      generalize (⟨out.toArray⟩ : ByteArray) = s at *
      have hs1 : s.size ≤ n := by omega
      have hs2 : n ≤ s.size := by omega
      clear hsz
      by_cases hn0 : s.size = 0
      · cases b
        all_goals
          go_wp2_with fail
          go_ret
          exact ⟨s, rfl, by omega, Hlet.out, S3.out.mono (by omega), gr3.out⟩
      cases b
      · go_wp2_with fail
        go_ret
        exact ⟨s, rfl, by omega, Hlet.out, S3.out.mono (by omega), gr3.out⟩
      have hn1 : 0 < s.size := by omega
      clear hn0
      go_wp2_with fail
      refine (pick_any g (K + 4 + 2 * n + 2) s.size s.size _ S3.out (by omega) (by omega) (by omega)).mono ?_
      rintro e w4 ⟨p, rfl, p0, p1, s4, g4⟩
      have gr4 := Lib.hid (gb_trans gr3.out g4)
      have S4 := Lib.hid s4; clear s4 g4 gr3 S3 hown hs hgr own2 S2 g2' ho hlet hcv
      have hex := Lib.hid (ext_let Hlet.out 0 (1 + p).toNat)
      have hes : (s.extract 0 (1 + p).toNat).size = min (1 + p).toNat s.size - 0 := ByteArray.size_extract
      have he1 : (s.extract 0 (1 + p).toNat).size ≤ s.size := by omega
      have he2 : 0 < (s.extract 0 (1 + p).toNat).size := by omega
      go_wp2_with fail
      go_loopw [9] (fun r_ w' => ∃ r : ByteArray, r_ = .string r ∧ 0 < r.size ∧ r.size ≤ 200000 ∧ Hid (r.data.toList.all letB = true) ∧ Hid (Src w' g (K + 8 + 2 * n + 2 * r.size)) ∧ Hid (w.grownBy w' (some g))) (fun r_ _ => most.toNat - strLen r_)
      case atStart => exact ⟨_, rfl, he2, by omega, hex, Lib.hid (S4.out.mono (by omega)), gr4⟩
      case round =>
        obtain ⟨r, rfl, hr0, hr1, hrl, hrs, hrg⟩ := hrel
        clear he1 he2 hes hex gr4 S4
        by_cases hlt2 : (r.size : Int) < most
        · go_wp2_with fail
          refine (one_any g (K + 8 + 2 * n + 2 * r.size) 2 _ hrs.out (by omega) (by omega)).mono ?_
          rintro e w5 ⟨b, rfl, s5, g5⟩
          have gr5 := Lib.hid (gb_trans hrg.out g5)
          have S5 := Lib.hid s5; clear s5 g5
          cases b
          · have hle : decide ((r.size : Int) ≤ most) = true := decide_eq_true (by omega)
            go_wp2_with fail
            go_ret
            exact ⟨r, rfl, by omega, hrl.out, S5.out.mono (by omega), gr5.out⟩
          · have hrr : (r ++ r).size = r.size + r.size := ByteArray.size_append
            have hl2 := Lib.hid (show (r ++ r).data.toList.all letB = true by rw [ByteArray.data_append, Array.toList_append, List.all_append, hrl.out]; rfl)
            have Hrr := Lib.hid hrr; clear hrr
            go_wp2_with fail
            go_roundw
            case rel => exact ⟨r ++ r, rfl, by rw [Hrr.out]; omega, by rw [Hrr.out]; omega, hl2, Lib.hid (S5.out.mono (by rw [Hrr.out]; omega)), gr5⟩
            case measure => simp [strLen]; omega
        · by_cases hle : (r.size : Int) ≤ most
          · go_wp2_with fail
            go_ret
            exact ⟨r, rfl, by omega, hrl.out, hrs.out.mono (by omega), hrg.out⟩
          · go_wp2_with fail
            go_ret
            exact ⟨s, rfl, by omega, Hlet.out, hrs.out.mono (by omega), hrg.out⟩
end Go.Proofs.Ytecnkmndmnefdaa


/-
  A region that draws its order: quiet operations ahead, in an order of ours, and a tail that waits for all of them.
-/
namespace Go.Proofs.Ytecnkmndmnefdaa
open Go

section
variable {P : Program} {ops : Array Oper} {md : Region.Mode} {C : World → Prop}

/-- what an operation waits for -/
def depsT (md : Region.Mode) (ops : Array Oper) (j : Nat) : List Nat :=
  match ops[j]? with
  | some o => (o.after.toList.filter fun e => Region.binds md e).map (·.on)
  | none => []
def reachT (md : Region.Mode) (ops : Array Oper) : Nat → List Nat → List Nat
  | 0, s => s
  | k + 1, s => reachT md ops k (s ++ (s.flatMap (depsT md ops)).filter fun x => !s.contains x).eraseDups
/-- every operation that is not ahead waits for all that are -/
def waitB (md : Region.Mode) (ops : Array Oper) (hd : List Nat) : Bool :=
  (List.range ops.size).all fun t => hd.contains t || hd.all fun i => (reachT md ops ops.size [t]).contains i
def seqT (md : Region.Mode) (ops : Array Oper) : List Nat → Array Bool → Bool
  | [], listed => (Region.ready md ops listed).isEmpty
  | t :: tl, listed => decide (Region.ready md ops listed = [t]) && seqT md ops tl (listed.setIfInBounds t true)
def headT (md : Region.Mode) (ops : Array Oper) (tl : List Nat) : List Nat → Array Bool → Bool
  | [], listed => seqT md ops tl listed
  | i :: hd, listed => (Region.ready md ops listed).contains i && Region.free md ops listed i && headT md ops tl hd (listed.setIfInBounds i true)
def tailB (md : Region.Mode) (ops : Array Oper) (hd tl : List Nat) : Bool :=
  Region.noSelect ops && waitB md ops hd && headT md ops tl hd (Array.replicate ops.size false) && decide (hd.length + tl.length = ops.size)

structure InvT (md : Region.Mode) (ops : Array Oper) (listed : Array Bool) : Prop where
  size : listed.size = ops.size
  closed : ∀ j oj, ops[j]? = some oj → listed.getD j false = true → ∀ e ∈ oj.after, Region.binds md e = true → listed.getD e.on false = true
theorem InvT.set {i : Nat} {listed : Array Bool} (inv : InvT md ops listed) (hi : i ∈ Region.ready md ops listed) : InvT md ops (listed.setIfInBounds i true) := by
  obtain ⟨_, oi, hoi, hall⟩ := mem_ready.1 hi
  refine ⟨by simp [inv.size], fun j oj hj hl e he hb => ?_⟩
  by_cases hij : i = j
  · subst hij
    have : oj = oi := Option.some.inj (hj.symm.trans hoi)
    subst this
    exact getD_set_true (hall e he hb)
  · rw [getD_set_ne false hij] at hl
    exact getD_set_true (inv.closed j oj hj hl e he hb)
theorem reachT_in {listed : Array Bool} (inv : InvT md ops listed) {t : Nat} (hr : t ∈ Region.ready md ops listed) : ∀ (k : Nat) (s : List Nat), (∀ x ∈ s, x = t ∨ listed.getD x false = true) → ∀ x ∈ reachT md ops k s, x = t ∨ listed.getD x false = true
  | 0, s, h => h
  | k + 1, s, h => by
    refine reachT_in inv hr k _ fun x hx => ?_
    rw [List.mem_eraseDups] at hx
    rcases List.mem_append.1 hx with hx | hx
    · exact h x hx
    · have hx := (List.mem_filter.1 hx).1
      obtain ⟨y, hy, hxy⟩ := List.mem_flatMap.1 hx
      unfold depsT at hxy
      split at hxy
      · rename_i o ho
        obtain ⟨e, he, rfl⟩ := List.mem_map.1 hxy
        rw [List.mem_filter] at he
        have he1 : e ∈ o.after := by simpa using he.1
        rcases h y hy with rfl | hl
        · obtain ⟨_, ot, hot, hall⟩ := mem_ready.1 hr
          have : o = ot := Option.some.inj (ho.symm.trans hot)
          subst this
          exact .inr (hall e he1 he.2)
        · exact .inr (inv.closed y o ho hl e he1 he.2)
      · simp at hxy
theorem waitT {hd : List Nat} {listed : Array Bool} (hw : waitB md ops hd = true) (inv : InvT md ops listed) {i t : Nat} (hi : i ∈ hd) (hun : listed.getD i true = false) (ht : t ∈ Region.ready md ops listed) : t ∈ hd := by
  obtain ⟨_, ot, hot, _⟩ := mem_ready.1 ht
  have htlt : t < ops.size := (Array.getElem?_eq_some_iff.1 hot).1
  have h1 := List.all_eq_true.1 hw t (List.mem_range.2 htlt)
  simp only [Bool.or_eq_true, List.contains_iff_mem] at h1
  rcases h1 with h1 | h1
  · exact h1
  · have h2 := List.all_eq_true.1 h1 i hi
    have h3 : i ∈ reachT md ops ops.size [t] := by simpa using h2
    rcases reachT_in inv ht _ [t] (fun x hx => .inl (by simpa using hx)) i h3 with rfl | h4
    · exact hi
    · rw [getD_both hun] at h4; cases h4

/-- Whatever order is picked: the operations ahead come first. -/
def wpAnyT (P : Program) (md : Region.Mode) (ops : Array Oper) (C : World → Prop) (hd : List Nat) (L : Array Bool → Act → Prop) : Nat → Array Bool → Act → Prop
  | 0, listed, a => L listed a
  | f + 1, listed, a => Region.ready md ops listed ≠ [] ∧ ∀ i ∈ Region.ready md ops listed, i ∈ hd ∧ qOp P ops C i (wpAnyT P md ops C hd L f (listed.setIfInBounds i true)) a
theorem wpAny_of_headT {hd : List Nat} {g : Nat} {L : Array Bool → Act → Prop} {Q' : Exit → Act → World → Prop} (hL : ∀ listed a w, C w → L listed a → wpAny P md ops Q' g listed a w) :
    ∀ (f : Nat) (listed : Array Bool) (a : Act) (w : World), C w → wpAnyT P md ops C hd L f listed a → wpAny P md ops Q' (f + g) listed a w
  | 0, listed, a, w, hw, h => by rw [Nat.zero_add]; exact hL _ _ _ hw h
  | f + 1, listed, a, w, hw, h => by
    rw [show f + 1 + g = (f + g) + 1 by omega]
    exact ⟨fun h0 => absurd h0 h.1, fun i hi => wpOp_of_qOp hw (fun a' w' hw' => wpAny_of_headT hL f _ a' w' hw') (h.2 i hi).2⟩
theorem wpAnyT_first {hd : List Nat} {i : Nat} {oi : Oper} {v : Value} {L : Array Bool → Act → Prop} (hi : ops[i]? = some oi) (hsel : ∀ (j : Nat) (o : Oper) cs b, ops[j]? = some o → o.op ≠ .select cs b)
    (hw : waitB md ops hd = true) (hin : i ∈ hd) (hdone : ∀ listed a, L listed a → ∀ j ∈ Region.ready md ops listed, j ∉ hd) :
    ∀ (f : Nat) (listed : Array Bool) (a : Act), InvT md ops listed →
      (∀ j oj, ops[j]? = some oj → j ≠ i → listed.getD j true = false → (∀ e ∈ oj.after, Region.binds md e = true → e.on ≠ i) → oi.apart ops oj = true) →
      i ∈ Region.ready md ops listed → YieldsIn P ops C oi v a →
      wpAnyT P md ops C hd L f (listed.setIfInBounds i true) (a.put oi.dst v) → wpAnyT P md ops C hd L (f + 1) listed a := by
  intro f
  induction f with
  | zero =>
    intro listed a inv _ hr hy H
    have hun := (mem_ready.1 hr).1
    refine ⟨fun h => (by rw [h] at hr; cases hr), fun j hj => ?_⟩
    have hjn := waitT hw inv hin hun hj
    refine ⟨hjn, ?_⟩
    by_cases hji : j = i
    · subst hji; exact hy.qOp hi H
    · exact absurd hjn (hdone _ _ H j (ready_mono hj hji))
  | succ f ih =>
    intro listed a inv hfree hr hy H
    have hun := (mem_ready.1 hr).1
    refine ⟨fun h => (by rw [h] at hr; cases hr), fun j hj => ?_⟩
    have hjn := waitT hw inv hin hun hj
    refine ⟨hjn, ?_⟩
    by_cases hji : j = i
    · subst hji; exact hy.qOp hi H
    · have h1 := (H.2 j (ready_mono hj hji)).2
      obtain ⟨hjun, oj, hoj, hall⟩ := mem_ready.1 hj
      have hnot : ∀ e ∈ oj.after, Region.binds md e = true → e.on ≠ i := fun e he hb heq => by
        have h1 := hall e he hb
        rw [heq, getD_both hun] at h1
        cases h1
      have h2 := qOp_put hoj (hfree j oj hoj hji hjun hnot) (fun cs b => hsel i oi cs b hi) (fun cs b => hsel j oj cs b hoj) hy h1
      have hfree' : ∀ k ok, ops[k]? = some ok → k ≠ i → (listed.setIfInBounds j true).getD k true = false →
          (∀ e ∈ ok.after, Region.binds md e = true → e.on ≠ i) → oi.apart ops ok = true := fun k ok hk hki hun hno => by
        refine hfree k ok hk hki ?_ hno
        by_cases hjk : j = k
        · subst hjk; exact hjun
        · rw [getD_set_ne true hjk] at hun; exact hun
      refine qOp_mono (fun a' h3 => ih (listed.setIfInBounds j true) a' (inv.set hj) hfree' (ready_mono hr (Ne.symm hji)) h3.1 ?_) h2
      rw [Array.setIfInBounds_comm _ _ hji]
      exact h3.2
theorem seqT_ready {tl : List Nat} {listed : Array Bool} (h : seqT md ops tl listed = true) : ∀ j ∈ Region.ready md ops listed, j ∈ tl := by
  cases tl with
  | nil => intro j hj; simp only [seqT, List.isEmpty_iff] at h; rw [h] at hj; cases hj
  | cons t tl =>
    intro j hj
    simp only [seqT, Bool.and_eq_true, decide_eq_true_eq] at h
    rw [h.1] at hj
    have : j = t := by simpa using hj
    simp [this]
theorem wpAny_of_seqT {Q' : Exit → Act → World → Prop} : ∀ (tl : List Nat) (l : List Oper) (listed : Array Bool) (a : Act) (w : World), tl.map (fun i => ops[i]?) = l.map some →
    seqT md ops tl listed = true → wpList P ops Q' l a w → wpAny P md ops Q' tl.length listed a w
  | [], [], _, _, _, _, hB, h => ⟨by simpa [seqT] using hB, h⟩
  | [], _ :: _, _, _, _, hl, _, _ => by simp at hl
  | _ :: _, [], _, _, _, hl, _, _ => by simp at hl
  | t :: tl, o :: l, listed, a, w, hl, hB, h => by
    simp only [List.map_cons, List.cons.injEq] at hl
    simp only [List.length_cons, seqT, Bool.and_eq_true, decide_eq_true_eq] at hB ⊢
    refine ⟨fun h1 => (by rw [hB.1] at h1; cases h1), fun i hi => ?_⟩
    rw [hB.1] at hi
    have hik : i = t := by simpa using hi
    subst hik
    have hw : wpOp P ops Q' i (wpList P ops Q' l) a w := by unfold wpOp; simp only [hl.1]; exact h
    exact wpOp_mono (fun a' w' h' => wpAny_of_seqT tl l _ a' w' hl.2 hB.2 h') hw
theorem wpAnyT_lex {hd0 tl : List Nat} {Lq : Act → Prop} (hsel : Region.noSelect ops = true) (hw : waitB md ops hd0 = true) (hdj : ∀ j ∈ tl, j ∉ hd0) :
    ∀ (hd : List Nat) (l : List Oper) (listed : Array Bool) (a : Act), hd.map (fun i => ops[i]?) = l.map some → (∀ i ∈ hd, i ∈ hd0) → InvT md ops listed →
    headT md ops tl hd listed = true → wpQuiet P ops C Lq l a →
    wpAnyT P md ops C hd0 (fun listed' a' => seqT md ops tl listed' = true ∧ Lq a') hd.length listed a
  | [], [], listed, a, _, _, _, hB, h => ⟨by simpa [headT] using hB, h⟩
  | [], _ :: _, _, _, hl, _, _, _, _ => by simp at hl
  | _ :: _, [], _, _, hl, _, _, _, _ => by simp at hl
  | i :: hd, o :: l, listed, a, hl, hin, inv, hB, h => by
    simp only [List.map_cons, List.cons.injEq] at hl
    simp only [headT, Bool.and_eq_true] at hB
    obtain ⟨⟨hr, hf⟩, hB'⟩ := hB
    have hr' : i ∈ Region.ready md ops listed := by simpa using hr
    have hst : qOp P ops C i (wpQuiet P ops C Lq l) a := by unfold qOp; simp only [hl.1]; exact h
    obtain ⟨v, hy, hK⟩ := yieldsIn_of_qOp hl.1 hst
    exact wpAnyT_first hl.1 (Region.noSelect_spec hsel) hw (hin i (by simp)) (fun listed' a' hL j hj => hdj j (seqT_ready hL.1 j hj)) hd.length listed a inv (Region.free_spec hl.1 hf) hr' hy
      (wpAnyT_lex hsel hw hdj hd l _ _ hl.2 (fun j hj => hin j (by simp [hj])) (inv.set hr') hB' hK)
/-- the operations with these numbers -/
def pickT (l : List Oper) : List Nat → List Oper
  | [] => []
  | i :: is => (l.drop i).take 1 ++ pickT l is
theorem pickT_map {l : List Oper} : ∀ {is : List Nat}, (∀ i ∈ is, i < l.length) → is.map (fun i => l.toArray[i]?) = (pickT l is).map some
  | [], _ => rfl
  | i :: is, h => by
    have hi := h i (by simp)
    have e : (l.drop i).take 1 = [l[i]] := by rw [List.drop_eq_getElem_cons hi]; rfl
    have ih := pickT_map (l := l) (is := is) (fun j hj => h j (by simp [hj]))
    rw [List.map_cons, ih]
    show _ = ((l.drop i).take 1 ++ pickT l is).map some
    rw [e]
    simp [hi]
/-- **Quiet operations ahead in the order 'hd', then the tail in the order 'tl'.** -/
theorem wp_region_tail {id : Nat} {Q : Exit → Act → World → Prop} {a : Act} {w : World} {l : List Oper} (C : World → Prop) (hd tl : List Nat) (hm : P.follows .mixedOrders = true)
    (hB : (tailB .any l.toArray hd tl && (hd.all fun i => decide (i < l.length)) && (tl.all fun i => decide (i < l.length)) && (tl.all fun j => !hd.contains j)) = true) (hC : C { w with drawn := w.drawn + 1 })
    (h : wpQuiet P l.toArray C (fun a' => ∀ w', C w' → wpList P l.toArray Q (pickT l tl) a' w') (pickT l hd) a) : (Code.region id l.toArray true).wp P Q a w := by
  simp only [tailB, Bool.and_eq_true, decide_eq_true_eq, List.all_eq_true] at hB
  obtain ⟨⟨⟨⟨⟨⟨hsel, hw⟩, hlex⟩, hlen⟩, hh⟩, ht⟩, hdj⟩ := hB
  have inv0 : InvT .any l.toArray (Array.replicate l.toArray.size false) := ⟨by simp, fun j oj _ hl => (by rw [getD_replicate_false] at hl; cases hl)⟩
  have H := wpAnyT_lex (md := .any) hsel hw (fun j hj => by have := hdj j hj; simpa using this) hd (pickT l hd) _ a (pickT_map hh) (fun _ h => h) inv0 hlex h
  refine wp_region_any hm ?_
  have := wpAny_of_headT (Q' := Q) (g := tl.length) (fun listed a' w' hw' hL => wpAny_of_seqT tl (pickT l tl) listed a' w' (pickT_map ht) hL.1 (hL.2 w' hw')) _ _ _ _ hC H
  rw [hlen] at this
  exact this
end
end Go.Proofs.Ytecnkmndmnefdaa


/-
  A region that draws its order: loads are taken first where nobody writes their cells before them.
-/
namespace Go.Proofs.Ytecnkmndmnefdaa
open Go

section
variable {P : Program} {ops : Array Oper} {Q : Exit → Act → World → Prop} {md : Region.Mode} {S : World → Prop} {N : List Nat}

def invB (md : Region.Mode) (ops : Array Oper) (listed : Array Bool) : Bool :=
  decide (listed.size = ops.size) && (List.range ops.size).all fun j => !listed.getD j false || (depsT md ops j).all fun i => listed.getD i false
theorem invB_spec {listed : Array Bool} (h : invB md ops listed = true) : InvT md ops listed := by
  simp only [invB, Bool.and_eq_true, decide_eq_true_eq] at h
  refine ⟨h.1, fun j oj hj hl e he hb => ?_⟩
  have hlt : j < ops.size := (Array.getElem?_eq_some_iff.1 hj).1
  have h1 := List.all_eq_true.1 h.2 j (List.mem_range.2 hlt)
  rw [hl] at h1
  simp only [Bool.not_true, Bool.false_or] at h1
  refine List.all_eq_true.1 h1 e.on ?_
  unfold depsT
  rw [hj]
  exact List.mem_map.2 ⟨e, List.mem_filter.2 ⟨by simpa using he, hb⟩, rfl⟩
/-- each operation that waits for 'i' apart, all keep what the load reads -/
def nB (md : Region.Mode) (ops : Array Oper) (N : List Nat) (i : Nat) : Bool :=
  (List.range ops.size).all fun j => decide (j = i) || !N.contains j || (reachT md ops ops.size [j]).contains i
/-- Whatever order is picked from here on; S holds behind each operation that is carried out, those of N apart. -/
def wpAnyN (P : Program) (md : Region.Mode) (ops : Array Oper) (Q : Exit → Act → World → Prop) (S : World → Prop) (N : List Nat) : Nat → Array Bool → Act → World → Prop
  | 0, listed, a, w => Region.ready md ops listed = [] ∧ Q .normal a w
  | fuel + 1, listed, a, w =>
    (Region.ready md ops listed = [] → Q .normal a w) ∧
    ∀ i ∈ Region.ready md ops listed, wpOp P ops Q i (fun a' w' => (N.contains i = false → S w') ∧ wpAnyN P md ops Q S N fuel (listed.setIfInBounds i true) a' w') a w
theorem wpAny_of_N : ∀ (fuel : Nat) (listed : Array Bool) (a : Act) (w : World), wpAnyN P md ops Q S N fuel listed a w → wpAny P md ops Q fuel listed a w
  | 0, _, _, _, h => h
  | fuel + 1, _, _, _, h => ⟨h.1, fun i hi => wpOp_mono (fun a' w' h' => wpAny_of_N fuel _ a' w' h'.2) (h.2 i hi)⟩
theorem wpAnyN_first {i : Nat} {oi : Oper} {v : Value} (hi : ops[i]? = some oi) (hsel : ∀ (j : Nat) (o : Oper) cs b, ops[j]? = some o → o.op ≠ .select cs b)
    (hQ : ∀ c a w, Q (.panic c) (a.put oi.dst v) w → Q (.panic c) a w) (hn : nB md ops N i = true) :
    ∀ (fuel : Nat) (listed : Array Bool) (a : Act) (w : World), InvT md ops listed →
      (∀ j oj, ops[j]? = some oj → j ≠ i → listed.getD j true = false → (∀ e ∈ oj.after, Region.binds md e = true → e.on ≠ i) → oi.apart ops oj = true) →
      i ∈ Region.ready md ops listed → YieldsIf P ops S oi v a → S w →
      wpAnyN P md ops Q S N fuel (listed.setIfInBounds i true) (a.put oi.dst v) w → wpAnyN P md ops Q S N (fuel + 1) listed a w := by
  intro fuel
  induction fuel with
  | zero =>
    intro listed a w _ _ hr hy hS H
    refine ⟨fun h => (by rw [h] at hr; cases hr), fun j hj => ?_⟩
    by_cases hji : j = i
    · subst hji; exact hy.wpOp hi hS ⟨fun _ => hS, H⟩
    · have := ready_mono hj hji
      rw [H.1] at this
      cases this
  | succ fuel ih =>
    intro listed a w inv hfree hr hy hS H
    refine ⟨fun h => (by rw [h] at hr; cases hr), fun j hj => ?_⟩
    by_cases hji : j = i
    · subst hji; exact hy.wpOp hi hS ⟨fun _ => hS, H⟩
    · have h1 := H.2 j (ready_mono hj hji)
      obtain ⟨hjun, oj, hoj, hall⟩ := mem_ready.1 hj
      have hun := (mem_ready.1 hr).1
      have hnot : ∀ e ∈ oj.after, Region.binds md e = true → e.on ≠ i := fun e he hb heq => by
        have h1 := hall e he hb
        rw [heq, getD_both hun] at h1
        cases h1
      have hNj : N.contains j = false := by
        have h2 := List.all_eq_true.1 hn j (List.mem_range.2 (Array.getElem?_eq_some_iff.1 hoj).1)
        simp only [Bool.or_eq_true, decide_eq_true_eq, Bool.not_eq_true'] at h2
        rcases h2 with (h2 | h2) | h2
        · exact absurd h2 hji
        · exact h2
        · have h3 : i ∈ reachT md ops ops.size [j] := by simpa using h2
          rcases reachT_in inv hj _ [j] (fun x hx => .inl (by simpa using hx)) i h3 with h4 | h4
          · exact absurd h4.symm hji
          · rw [getD_both hun] at h4; cases h4
      have h2 := wpOp_putIf hoj (hfree j oj hoj hji hjun hnot) (fun cs b => hsel i oi cs b hi) (fun cs b => hsel j oj cs b hoj) hQ hy h1
      have hfree' : ∀ k ok, ops[k]? = some ok → k ≠ i → (listed.setIfInBounds j true).getD k true = false →
          (∀ e ∈ ok.after, Region.binds md e = true → e.on ≠ i) → oi.apart ops ok = true := fun k ok hk hki hun hno => by
        refine hfree k ok hk hki ?_ hno
        by_cases hjk : j = k
        · subst hjk; exact hjun
        · rw [getD_set_ne true hjk] at hun; exact hun
      refine wpOp_mono (fun a' w' h3 => ⟨h3.2.1, ih (listed.setIfInBounds j true) a' w' (inv.set hj) hfree' (ready_mono hr (Ne.symm hji)) h3.1 (h3.2.1 hNj) ?_⟩) h2
      rw [Array.setIfInBounds_comm _ _ hji]
      exact h3.2.2
def takeB (md : Region.Mode) (ops : Array Oper) (N : List Nat) (listed : Array Bool) (i : Nat) : Bool :=
  Region.noSelect ops && (Region.free md ops listed i && ((Region.ready md ops listed).contains i && (nB md ops N i && invB md ops listed)))
/-- Take number 'i' first. -/
theorem wpAnyN_take {i : Nat} {oi : Oper} {v : Value} {fuel : Nat} {listed : Array Bool} {a : Act} {w : World} (hi : ops[i]? = some oi) (hB : takeB md ops N listed i = true)
    (hQ : ∀ c a w, Q (.panic c) (a.put oi.dst v) w → Q (.panic c) a w) (hw : Region.wanted oi (yielded ops a.tmps) = true) (hy : ∀ w, S w → (execOp a.eval oi).run P w = .ok (.value v) w) (hS : S w)
    (h : wpAnyN P md ops Q S N fuel (listed.setIfInBounds i true) (a.put oi.dst v) w) : wpAnyN P md ops Q S N (fuel + 1) listed a w := by
  simp only [takeB, Bool.and_eq_true] at hB
  obtain ⟨h1, h2, h3, h4, h5⟩ := hB
  exact wpAnyN_first hi (Region.noSelect_spec h1) hQ h4 fuel listed a w (invB_spec h5) (Region.free_spec hi h2) (by simpa using h3) (.inl ⟨hw, hy⟩) hS h
/-- The one that comes up. -/
theorem wpAnyN_next {i : Nat} {o : Oper} {fuel : Nat} {listed : Array Bool} {a : Act} {w : World} (ho : ops[i]? = some o) (hr : Region.ready md ops listed = [i])
    (h : ∀ K' : Act → World → Prop, Shut (∀ a w, (N.contains i = false → S w) → wpAnyN P md ops Q S N fuel (listed.setIfInBounds i true) a w → K' a w) → if Region.wanted o (yielded ops a.tmps) = true then Oper.wp P o a w K' Q else K' (a.put o.dst undef) w) :
    wpAnyN P md ops Q S N (fuel + 1) listed a w := by
  refine ⟨fun h0 => (by rw [h0] at hr; cases hr), fun j hj => ?_⟩
  rw [hr] at hj
  obtain rfl : j = i := by simpa using hj
  exact wpOp_step ho (fun K' hK => h K' (fun a w hS hW => hK a w ⟨hS, hW⟩))
theorem wpAnyN_done {listed : Array Bool} {a : Act} {w : World} (hr : Region.ready md ops listed = []) (h : Q .normal a w) : ∀ fuel, wpAnyN P md ops Q S N fuel listed a w
  | 0 => ⟨hr, h⟩
  | _ + 1 => ⟨fun _ => h, by rw [hr]; simp⟩
theorem wp_region_N {id : Nat} {a : Act} {w : World} (S : World → Prop) (N : List Nat) (hm : P.follows .mixedOrders = true)
    (h : wpAnyN P .any ops Q S N ops.size (Array.replicate ops.size false) a w.drew) : (Code.region id ops true).wp P Q a w :=
  wp_region_any hm (wpAny_of_N _ _ _ _ h)
end
end Go.Proofs.Ytecnkmndmnefdaa


/-
  A region that draws its order, in which two or three operations that write may come up; a copy into a new row.
-/
namespace Go.Proofs.Ytecnkmndmnefdaa
open Go.RowKit

section
variable {P : Program} {ops : Array Oper} {Q : Exit → Act → World → Prop} {md : Region.Mode} {S : World → Prop} {N : List Nat}
/-- what is to be shown of one that comes up -/
def UpN (P : Program) (ops : Array Oper) (Q : Exit → Act → World → Prop) (md : Region.Mode) (S : World → Prop) (N : List Nat) (fuel : Nat) (listed : Array Bool) (a : Act) (w : World) (i : Nat) (o : Oper) : Prop :=
  ∀ K' : Act → World → Prop, Shut (∀ a w, (N.contains i = false → S w) → wpAnyN P md ops Q S N fuel (listed.setIfInBounds i true) a w → K' a w) → if Region.wanted o (yielded ops a.tmps) = true then Oper.wp P o a w K' Q else K' (a.put o.dst undef) w
theorem wpAnyN_2 {i j : Nat} {o o' : Oper} {fuel : Nat} {listed : Array Bool} {a : Act} {w : World} (ho : ops[i]? = some o) (ho' : ops[j]? = some o') (hr : Region.ready md ops listed = [i, j])
    (h : UpN P ops Q md S N fuel listed a w i o) (h' : UpN P ops Q md S N fuel listed a w j o') : wpAnyN P md ops Q S N (fuel + 1) listed a w := by
  refine ⟨fun h0 => (by rw [h0] at hr; cases hr), fun k hk => ?_⟩
  rw [hr] at hk
  rcases List.mem_cons.1 hk with rfl | hk
  · exact wpOp_step ho (fun K' hK => h K' (fun a w hS hW => hK a w ⟨hS, hW⟩))
  · obtain rfl : k = j := by simpa using hk
    exact wpOp_step ho' (fun K' hK => h' K' (fun a w hS hW => hK a w ⟨hS, hW⟩))
theorem wpAnyN_3 {i j l : Nat} {o o' o'' : Oper} {fuel : Nat} {listed : Array Bool} {a : Act} {w : World} (ho : ops[i]? = some o) (ho' : ops[j]? = some o') (ho'' : ops[l]? = some o'') (hr : Region.ready md ops listed = [i, j, l])
    (h : UpN P ops Q md S N fuel listed a w i o) (h' : UpN P ops Q md S N fuel listed a w j o') (h'' : UpN P ops Q md S N fuel listed a w l o'') : wpAnyN P md ops Q S N (fuel + 1) listed a w := by
  refine ⟨fun h0 => (by rw [h0] at hr; cases hr), fun k hk => ?_⟩
  rw [hr] at hk
  rcases List.mem_cons.1 hk with rfl | hk
  · exact wpOp_step ho (fun K' hK => h K' (fun a w hS hW => hK a w ⟨hS, hW⟩))
  · rcases List.mem_cons.1 hk with rfl | hk
    · exact wpOp_step ho' (fun K' hK => h' K' (fun a w hS hW => hK a w ⟨hS, hW⟩))
    · obtain rfl : k = l := by simpa using hk
      exact wpOp_step ho'' (fun K' hK => h'' K' (fun a w hS hW => hK a w ⟨hS, hW⟩))
end
section
variable {α : Type} {P : Program} {w : World} {ops : Array Oper} {o : Oper} {a : Act} {K : Act → World → Prop} {Q : Exit → Act → World → Prop} {E : Prop}
/-- all elements into a new row, as a step of a region that draws its order; where the row lies then -/
theorem step_copyL (hgd : o.guard = none) (s x : Operand) (t : TypeId) (ho : o.op = .call { callee := .builtin .append, args := #[s, x], argTypes := #[t, t] })
    (base : Nat) (e : TypeId) (sz bytes : Nat) (EI : Elem P t e sz bytes) (enc : α → List Value) (e0 : Nat) (hs : a.eval s = .slice (some ⟨e0, 0, none⟩) 0 0)
    (hown : w.ownsRow base e sz (.slice (some ⟨e0, 0, none⟩) 0 0) 0 []) (ad : Addr) (m cc : Nat) (ys : List α) (hx : a.eval x = .slice (some ad) m cc) (hym : ys.length = m) (hm0 : 0 < m) (hnews : ∀ j u, (ys.flatMap enc)[j]? = some u → w.cell? (ad.add j) = some u)
    (hlen : ∀ y ∈ ys, (enc y).length = sz) (hone : ∀ y ∈ ys, ∀ u ∈ enc y, u.oneCell' = true) (hsz : 0 < sz) (hbytes : m * bytes ≤ 140737488355328) (hm : m ≤ maxLen) (hsize : base ≤ w.heap.size)
    (h : ∀ A' c' w', w'.ownsRow base e sz (.slice A' m c') m (ys.flatMap enc) → w.grownBy w' (some e0) → ((Value.slice A' m c').ownBlock = some e0 ∨ (Value.slice A' m c').ownBlock = some w.heap.size) → K (a.put o.dst (.slice A' m c')) w') :
    if Region.wanted o (yielded ops a.tmps) = true then Oper.wp P o a w K Q else E := by
  obtain ⟨ht, i, z, hi, hz, h1, h2, hzs⟩ := EI
  obtain ⟨v', w', hr, r2, r3, _, r5⟩ := run_append_own_at (P := P) w base t o.type e i z sz bytes ht hi hz h1 h2 hzs hsz _ 0 _ hown ad m cc (ys.flatMap enc) (by rw [flat_len ys hlen, hym]) hnews
    (fun u hu => by obtain ⟨y, hy, hu⟩ := List.mem_flatMap.1 hu; exact hone y hy u hu) (by omega) (by rw [Nat.zero_add]; exact hbytes) hsize
  rw [Nat.zero_add, List.nil_append] at r2
  obtain ⟨g', cap, rfl, _, _⟩ := r2.form (by omega)
  have hw : Region.wanted o (yielded ops a.tmps) = true := by simp [Region.wanted, hgd]
  rw [if_pos hw]
  unfold Oper.wp execOp
  simp only [ho, resolve, invoke, builtin, Sem.run_bind, Sem.run_pure, Result.andThen_ok, List.map_toArray, List.map_cons, List.map_nil, hs, hx, hr]
  exact h _ _ w' r2 r3 r5
end
end Go.Proofs.Ytecnkmndmnefdaa


/-
  The grammar of a plain word in the program: the small functions.
-/
namespace Go.Proofs.Ytecnkmndmnefdaa
open Go.RowKit

theorem conv_letter (W : World) (g c : Nat) (b : UInt8) (h : W.cell? ⟨g, 0, none⟩ = some (.int .u8 (b.toNat : Int))) : (convert 22 9 (.slice (some ⟨g, 0, none⟩) 1 c)).run Try.prog W = .ok (.string ⟨#[b]⟩) W := by
  refine run_convert_bytes_back (P := Try.prog) W _ _ 5 ⟨g, 0, none⟩ c [b] Try.underlying22 Try.underlying5 Try.underlying9 fun j hj => ?_
  obtain rfl : j = 0 := by simpa using hj
  simp [Addr.add, h]
theorem indexByte_mem (l : List UInt8) (c : UInt8) : (0 ≤ Lib.indexByte l c) ↔ c ∈ l := by
  induction l with
  | nil => simp [Lib.indexByte]
  | cons b l ih =>
    unfold Lib.indexByte
    have := Lib.indexByte_ge l c
    by_cases hb : b = c
    · simp [hb]
    · have hb' : (b == c) = false := by simpa using hb
      rw [hb']
      simp only [Bool.false_eq_true, if_false, List.mem_cons, (Ne.symm hb : c ≠ b), false_or, ← ih]
      by_cases h1 : Lib.indexByte l c = -1
      · simp [h1]
      · have : (Lib.indexByte l c == -1) = false := by simpa using h1
        rw [this]; simp; omega
end Go.Proofs.Ytecnkmndmnefdaa
