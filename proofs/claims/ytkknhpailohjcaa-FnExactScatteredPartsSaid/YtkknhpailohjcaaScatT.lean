/-
  Scattered words, counted: the table of a word, in the reference.
-/
import Derived.Test.YtkknhpailohjcaaScatS
namespace Go.Proofs.Ytkknhpailohjcaa
open Go.RowKit

/-- a table under way: rows before i are done, row i up to j -/
def Part (N : Nat) (m : Int) (fin : Tb) (i j : Nat) (Y : Tb) : Prop := ∀ a b, a < N → b < N → Y a b = if a < i ∨ (a = i ∧ b < j) then fin a b else scId m a b
theorem Part.row {N : Nat} {m : Int} {fin : Tb} {i : Nat} {Y : Tb} (h : Part N m fin i 0 Y) (hf : ∀ b, b < i → b < N → i < N → fin i b = 0) : Part N m fin i i Y := fun a b ha hb => by
  rw [h a b ha hb]
  by_cases h1 : a < i
  · rw [if_pos (.inl h1), if_pos (.inl h1)]
  · by_cases h2 : a = i ∧ b < i
    · obtain ⟨rfl, h3⟩ := h2
      rw [if_neg (by omega), if_pos (.inr ⟨rfl, h3⟩), hf b h3 hb ha]
      unfold scId; rw [if_neg (by omega)]
    · rw [if_neg (by omega), if_neg (by omega)]
theorem Part.over {N : Nat} {m : Int} {fin : Tb} {i : Nat} {Y : Tb} (h : Part N m fin i N Y) : Part N m fin (i + 1) 0 Y := fun a b ha hb => by
  rw [h a b ha hb]
  by_cases h1 : a < i ∨ a = i ∧ b < N
  · rw [if_pos h1, if_pos (by omega)]
  · rw [if_neg h1, if_neg (by omega)]
theorem Part.keep {N : Nat} {m : Int} {fin : Tb} {i j : Nat} {Y : Tb} (h : Part N m fin i j Y) (hf : fin i j = scId m i j) : Part N m fin i (j + 1) Y := fun a b ha hb => by
  rw [h a b ha hb]
  by_cases h1 : a < i ∨ a = i ∧ b < j
  · rw [if_pos h1, if_pos (by omega)]
  · by_cases h2 : a = i ∧ b = j
    · obtain ⟨rfl, rfl⟩ := h2
      rw [if_neg h1, if_pos (by omega), hf]
    · rw [if_neg h1, if_neg (by omega)]
theorem Part.put {N : Nat} {m : Int} {fin : Tb} {i j : Nat} {Y : Tb} (h : Part N m fin i j Y) {v : Int} (hf : fin i j = v) : Part N m fin i (j + 1) (fun a b => if a = i ∧ b = j then v else Y a b) := fun a b ha hb => by
  show (if a = i ∧ b = j then v else Y a b) = _
  by_cases h2 : a = i ∧ b = j
  · rw [if_pos h2, if_pos (by omega)]; rw [h2.1, h2.2, hf]
  · rw [if_neg h2, h a b ha hb]
    by_cases h1 : a < i ∨ a = i ∧ b < j
    · rw [if_pos h1, if_pos (by omega)]
    · rw [if_neg h1, if_neg (by omega)]
theorem Part.done {N : Nat} {m : Int} {fin : Tb} {Y : Tb} (h : Part N m fin N 0 Y) : tabL N Y = tabL N fin := tabL_ext fun a b ha hb => by rw [h a b ha hb, if_pos (.inl ha)]
theorem Part.start (N : Nat) (m : Int) (fin : Tb) : Part N m fin 0 0 (scId m) := fun a b _ _ => by rw [if_neg (by omega)]
theorem TabJ.frz {w : World} {base n c m : Nat} {A : Option Addr} {gs : List Nat} {xss : List (List Int)} (h : TabJ w base A n c m gs xss) {i g : Nat} (hg : gs[i]? = some g) (j : Nat) : w.frozen? ⟨g, j, none⟩ = false := by
  rcases (h.r i g hg).2 with ⟨h0, _⟩ | ⟨g', cap, cur, hv, _, hh, _⟩
  · cases h0
  · obtain rfl : g = g' := by injection hv with e; injection e with e; injection e
    exact (show Blk w g 2 cur from hh).frozen j
theorem ext_oneS {s : ByteArray} {q : Nat} (h : q < s.size) : s.extract q (q + 1) = ⟨#[s[q]]⟩ := by
  apply ByteArray.ext
  rw [ByteArray.data_extract]
  apply Array.ext'
  rw [Array.toList_extract, List.extract_eq_take_drop]
  rw [show q + 1 - q = 1 by omega]
  have := drop_cons (at_byte s q h)
  rw [this]; rfl
set_option maxHeartbeats 8000000 in
set_option maxRecDepth 100000 in
theorem l05Scattered_any (gb : Nat) (A : Option Addr) (n c : Nat) (rs : List Fac) (p : ByteArray) (m : Int) (w : World) (hg : gb < w.heap.size) (hc : w.cell? ⟨gb, 0, none⟩ = some (.slice A n c)) (hn : n ≤ 1048576) (hr : Rd w w.heap.size A n 3 Fac.cells rs) {ls : List Int} (hls : gLens rs [] = some ls)
    (hp : okW p = true) (hp8 : p.size ≤ 8) (hm : 1 ≤ m) (hm2 : m ≤ 1000000000) :
    Calls Try.prog 49 #[.pointer (some ⟨gb, 0, none⟩), .string p, .int .i64 m] w (RetRep (TabN (p.size + 1) w.heap.size) (scTop rs p m) w) := by
  have hl := Lib.hid hr.len
  have HR := Lib.hid hr; clear hr
  have HL := Lib.hid hls; clear hls
  have HP := Lib.hid hp; clear hp
  have HW := Lib.hid (wf_of HL.out)
  have hm0 : ¬ m = 0 := by omega
  generalize hN : p.size + 1 = N at *
  have HN := Lib.hid hN
  have HT := Lib.hid (fun (w' : World) => show Calls Try.prog 90 #[.int .i64 (p.size : Int), .int .i64 m] w' (RetRep (TabN N w'.heap.size) (scId m) w') by rw [← hN]; exact l05Table_any p.size m w' hp8 hm hm2)
  have hNq : (N : Int) = (p.size : Int) + 1 := by omega
  clear hN
  have RO := tabN_ok N w.heap.size (E := 38) (by decide) (by decide)
  go_enter Try.func49, Try.ntmps49
  go_wp2_with fail
  go_loopw [8, 9] (fun o_ i_ w' => ∃ (k : Nat) (A' : Option Addr) (c' : Nat) (vs : List Value), i_ = .int .i64 k ∧ o_ = .slice A' k c' ∧ k ≤ n ∧
      Hid (w'.ownsRow w.heap.size 38 1 (.slice A' k c') k (vs.flatMap encV)) ∧ Hid (Reps scNil (TabN N w.heap.size) w' vs (outs scNil (fun l => scU p m (l : Int)) (scG m) rs k)) ∧ Below w.heap.size w w') (fun _ i_ _ => n - (intOf i_).toNat)
  case atStart =>
    exact ⟨0, _, 0, [], rfl, rfl, by omega, Lib.hid (by simpa using World.ownsRow_made (base := w.heap.size) (e := 38) (size := 1) w #[] 0 (by simp) (by unfold maxLen; omega) rfl), Lib.hid ⟨by simp [outs, foldG], by simp⟩, by (repeat first | exact Below.refl _ _ | assumption | refine Below.drew ?_ | refine Below.alloc ?_ (by first | exact Nat.le_refl _ | (simp; done) | omega | (simp; omega)) _ | refine Below.setCell ?_ (by first | exact Nat.le_refl _ | (simp; done) | omega | (simp; omega)) _)⟩
  case round =>
    obtain ⟨k, A', c', vs, rfl, rfl, hk, hown, hrep, hb⟩ := hrel
    rename World => wo
    have cg := (hb.cell (p := ⟨gb, 0, none⟩) hg).trans hc
    have lg : gb < wo.heap.size := by have := hb.size; omega
    by_cases hlt : k < n
    · obtain ⟨b, o, x, rfl, hB, gx, c0, c1, c2⟩ := (HR.out.next hb).fac hlt
      have Hst := Lib.hid (outs_step scNil (fun l => scU p m (l : Int)) (scG m) gx)
      have Hol := Lib.hid (outs_len scNil (fun l => scU p m (l : Int)) (scG m) rs k (by rw [hl.out]; exact hk))
      have Gx := Lib.hid gx; clear gx
      go_wp2_with fail
      refine namedC fun w3 H3 => ?_
      have hb3 : Below wo.heap.size wo w3 := by rw [H3.out]; (repeat first | exact Below.refl _ _ | assumption | refine Below.drew ?_ | refine Below.alloc ?_ (by first | exact Nat.le_refl _ | (simp; done) | omega | (simp; omega)) _ | refine Below.setCell ?_ (by first | exact Nat.le_refl _ | (simp; done) | omega | (simp; omega)) _)
      have BX := Lib.hid (show Blk w3 wo.heap.size 75 #[.string x.l, .int .i64 x.a, .int .i64 x.b] by rw [H3.out]; exact Blk.new wo _ _)
      clear H3 cg lg c0 c1 c2
      have own3 := Lib.hid (own_next hown.out hb3)
      have rep3 := Lib.hid (hrep.out.next RO hb3)
      have lX := BX.out.lt
      refine (HT.out w3).mono ?_
      rintro e4 w4 ⟨v4, rfl, hT4, hb4⟩
      obtain ⟨A4, c4, gs4, rfl, hT4⟩ := hT4
      have T4 := Lib.hid hT4; clear hT4
      generalize hfn : fStep scNil (fun l => scU p m (l : Int)) (scG m) (outs scNil (fun l => scU p m (l : Int)) (scG m) rs k) x = fin at *
      have Hfn := Lib.hid hfn; clear hfn
      have h0fin : Hid (∀ i b, b < i → fin i b = 0) := by
        refine Lib.hid (fun i b hb => ?_)
        rw [← Hfn.out]; unfold fStep
        split
        · unfold scG; rw [if_pos hb]
        · show scU p m (letN x.l) i b = 0
          unfold scU; rw [if_neg (by omega), if_neg (by omega)]
      go_wp2_with fail
      go_loopw [12] (fun i_ w' => ∃ (i : Nat) (Y : Tb), i_ = .int .i64 i ∧ i ≤ N ∧ Hid (TabJ w' w3.heap.size A4 N c4 N gs4 (tabL N Y)) ∧ Hid (Part N m fin i 0 Y) ∧ Below w3.heap.size w3 w') (fun i_ _ => N - (intOf i_).toNat)
      case atStart => exact ⟨0, _, rfl, by omega, T4, Lib.hid (Part.start N m fin), hb4⟩
      case round =>
        obtain ⟨i, Y, rfl, hi, hT, hY, hbi⟩ := hrel
        by_cases hlti : i < N
        · have hip : (i : Int) ≤ (p.size : Int) := by omega
          go_wp2_with fail
          go_loopw [13] (fun j_ w' => ∃ (j : Nat) (Y : Tb), j_ = .int .i64 j ∧ i ≤ j ∧ j ≤ N ∧ Hid (TabJ w' w3.heap.size A4 N c4 N gs4 (tabL N Y)) ∧ Hid (Part N m fin i j Y) ∧ Below w3.heap.size w3 w') (fun j_ _ => N - (intOf j_).toNat)
          case atStart => exact ⟨i, Y, rfl, Nat.le_refl _, hi, hT, Lib.hid (hY.out.row (fun b h1 _ _ => h0fin.out i b h1)), hbi⟩
          case round =>
            clear hT hY
            obtain ⟨j, Y, rfl, hij, hj, hT, hY, hbj⟩ := hrel
            by_cases hltj : j < N
            · have hjp : (j : Int) ≤ (p.size : Int) := by omega
              obtain ⟨d0, d1, d2⟩ := (BX.out.next hbj).three
              have lx : wo.heap.size < wr.heap.size := by have := hbj.size; omega
              rcases HW.out k x Gx.out with ⟨h0, ha0, ha1, hb0', hb1'⟩ | ⟨cc, hcc, hxl, hxa, hxb⟩
              · have e0 := size0 h0
                have hkr : k ≤ rs.length := by rw [hl.out]; exact hk
                obtain ⟨g, cap, hv, hg0, hg1⟩ := own3.out.form (by omega)
                obtain rfl : A' = some ⟨g, 0, none⟩ := by injection hv
                clear hv
                have hvl := Lib.hid (rep3.out.1.trans Hol.out)
                have va := own_at (enc := encV) (sz := 1) (fun _ _ => rfl) own3.out hvl.out undef x.a.toNat (by omega) 0 Nat.zero_lt_one
                have vb := own_at (enc := encV) (sz := 1) (fun _ _ => rfl) own3.out hvl.out undef x.b.toNat (by omega) 0 Nat.zero_lt_one
                have ra := rep3.out.at_ undef (show x.a.toNat < vs.length by rw [hvl.out]; omega)
                have rb := rep3.out.at_ undef (show x.b.toNat < vs.length by rw [hvl.out]; omega)
                have sa := sc_in HL.out hm p N (k := x.a.toNat) (by omega)
                have sb := sc_in HL.out hm p N (k := x.b.toNat) (by omega)
                rw [← outs_full scNil (fun l => scU p m (l : Int)) (scG m) (k := k) (i := x.a.toNat) (by omega) hkr] at sa
                rw [← outs_full scNil (fun l => scU p m (l : Int)) (scG m) (k := k) (i := x.b.toNat) (by omega) hkr] at sb
                have hf : fin = scG m ((outs scNil (fun l => scU p m (l : Int)) (scG m) rs k).getD x.a.toNat scNil) ((outs scNil (fun l => scU p m (l : Int)) (scG m) rs k).getD x.b.toNat scNil) x := by
                  rw [← Hfn.out]; unfold fStep; rw [if_pos h0]
                generalize (outs scNil (fun l => scU p m (l : Int)) (scG m) rs k).getD x.a.toNat scNil = X at *
                generalize (outs scNil (fun l => scU p m (l : Int)) (scG m) rs k).getD x.b.toNat scNil = Z at *
                obtain ⟨A1, n1, gs1, ea, hTa⟩ := ra
                obtain ⟨A2, n2, gs2, eb, hTb⟩ := rb
                have va' : w3.cell? ⟨g, x.a.toNat, none⟩ = some (.slice A1 N n1) := by rw [← ea]; simpa [encV] using va
                have vb' : w3.cell? ⟨g, x.b.toNat, none⟩ = some (.slice A2 N n2) := by rw [← eb]; simpa [encV] using vb
                have HF := Lib.hid (show fin i j = scDot m X Z i j (j + 1 - i) by rw [hf]; unfold scG; rw [if_neg (by omega), show j - i + 1 = j + 1 - i by omega])
                have HTa := Lib.hid hTa; have HTb := Lib.hid hTb
                have SA := Lib.hid sa; have SB := Lib.hid sb
                have Va := Lib.hid va'; have Vb := Lib.hid vb'
                have i1 : x.a < (k : Int) := ha1
                have i2 : x.b < (k : Int) := hb1'
                clear va vb ea eb hTa hTb sa sb va' vb' hf h0
                rename World => wj
                go_wp2_with fail
                go_loopw [14, 15] (fun s_ c_ w' => ∃ (q : Nat), c_ = .int .i64 q ∧ s_ = .int .i64 (scDot m X Z i j (q - i)) ∧ i ≤ q ∧ q ≤ j + 1 ∧ Below wj.heap.size wj w') (fun _ c_ _ => j + 1 - (intOf c_).toNat)
                case atStart => exact ⟨i, rfl, by rw [Nat.sub_self]; rfl, Nat.le_refl _, by omega, Below.refl _ _⟩
                case round =>
                  obtain ⟨q, rfl, rfl, hiq, hqj, hbq⟩ := hrel
                  have hbW := hbj.trans (hbq.mono hbj.size)
                  by_cases hltq : q ≤ j
                  · obtain ⟨f0, f1, f2⟩ := (BX.out.next hbW).three
                    have lx2 : wo.heap.size < wr.heap.size := by have := hbW.size; omega
                    have ca := (hbW.cell (p := ⟨g, x.a.toNat, none⟩) hg1).trans Va.out
                    have cb := (hbW.cell (p := ⟨g, x.b.toNat, none⟩) hg1).trans Vb.out
                    obtain ⟨p1, g1, rfl, hp1, _, hg1', s1, q1⟩ := (HTa.out.next hbW).num (Nat.le_refl _) (i := i) (j := q) hlti (by omega)
                    obtain ⟨p2, g2, rfl, hp2, _, hg2', s2, q2⟩ := (HTb.out.next hbW).num (Nat.le_refl _) (i := q) (j := j) (by omega) hltj
                    obtain ⟨x0, x1⟩ := SA.out i q hlti (by omega)
                    obtain ⟨y0, y1⟩ := SB.out q j (by omega) hltj
                    obtain ⟨t0, t1⟩ := scDot_in hm X Z i j (q - i)
                    have eN := Lib.hid (show scDot m X Z i j (q + 1 - i) = (scDot m X Z i j (q - i) + X i q * Z q j) % m by
                      rw [show q + 1 - i = (q - i) + 1 by omega]
                      show (_ + X i (i + (q - i)) * Z (i + (q - i)) j) % m = _
                      rw [show i + (q - i) = q by omega])
                    have mq := mul_b9s x0 x1 y0 y1 hm2
                    generalize X i q = xv at *
                    generalize Z q j = yv at *
                    generalize scDot m X Z i j (q - i) = t at *
                    obtain ⟨mq0, mq1⟩ := mq
                    have re := emod_inT (a := t + xv * yv) hm
                    obtain ⟨re0, re1⟩ := re
                    have u1 : IntKind.i64.wrap (xv * yv) = xv * yv := IntWalk.i64_in _ (by omega)
                    have u2 : IntKind.i64.wrap (t + xv * yv) = t + xv * yv := IntWalk.i64_in _ (by clear u1; omega)
                    have u3 : IntKind.i64.wrap ((t + xv * yv) % m) = (t + xv * yv) % m := IntWalk.i64_in _ (by clear u1 u2; omega)
                    have v1 : (t + xv * yv).tmod m = (t + xv * yv) % m := Int.tmod_eq_emod_of_nonneg (by omega)
                    have j1 : (q : Int) ≤ (j : Int) := by omega
                    have j2 : (j : Int) < (N : Int) := by omega
                    have j3 : (q : Int) < (N : Int) := by omega
                    have j4 : (i : Int) < (N : Int) := by omega
                    go_wp2_with fail
                    go_region
                    clear u1 u2 u3 v1 s1 s2 q1 q2 ca cb f0 f1 f2
                    go_wp2_with fail
                    go_roundw
                    case rel => exact ⟨q + 1, by go_num, by rw [eN.out], by omega, by omega, hbq.drew⟩
                    case measure => simp [intOf]; omega
                  · obtain rfl : q = j + 1 := by omega
                    have T := Lib.hid (hT.out.next hbq)
                    obtain ⟨p4, g4, rfl, hp4, hgs, hg4, s4, q4⟩ := T.out.num (Nat.le_refl _) (i := i) (j := j) hlti hltj
                    have f4 := T.out.frz hgs j
                    have hset := Lib.hid (T.out.set (Y' := fun a b => if a = i ∧ b = j then scDot m X Z i j (j + 1 - i) else Y a b) (Nat.le_refl _) hlti hltj hgs (scDot m X Z i j (j + 1 - i)) (by simp) (fun a b h => by simp only [h, if_false]))
                    have hput := Lib.hid (hY.out.put HF.out)
                    have hlo := (T.out.lt hgs).1
                    have hbs := Lib.hid (hbW.setCell (p := ⟨g4, j, none⟩) hlo (.int .i64 (scDot m X Z i j (j + 1 - i))))
                    clear hgs hY
                    generalize scDot m X Z i j (j + 1 - i) = v at *
                    have j2 : (j : Int) < (N : Int) := by omega
                    have j4 : (i : Int) < (N : Int) := by omega
                    go_wp2_with fail
                    go_roundw
                    case rel => exact ⟨j + 1, _, by go_num, by omega, by omega, hset, hput, hbs.out⟩
                    case measure => simp [intOf]; omega
              · obtain ⟨xl, xa, xb⟩ := x
                simp only at hxl hxa hxb
                subst hxl hxa hxb
                have e1 := size1 (s := ⟨#[cc]⟩) (show (1 : Nat) ≠ 0 by omega)
                have e2 := size1' (s := ⟨#[cc]⟩) (show (1 : Nat) ≠ 0 by omega)
                have hf : fin = scU p m ((letN ⟨#[cc]⟩ : Nat) : Int) := by
                  rw [← Hfn.out]; rfl
                have re := emod_inT (a := 1) hm
                obtain ⟨re0, re1⟩ := re
                have u1 : IntKind.i64.wrap (1 % m) = 1 % m := IntWalk.i64_in _ (by omega)
                have v1 : (1 : Int).tmod m = 1 % m := Int.tmod_eq_emod_of_nonneg (by omega)
                have l97 : 97 ≤ cc.toNat := by have := (letB_num hcc).1; omega
                by_cases hj1 : j = i + 1
                · have hips : i < p.size := by have := HN.out; omega
                  have k1 : ((j : Int) == (i : Int) + 1) = true := by simp; omega
                  have k2 : (j : Int) ≤ (p.size : Int) := by omega
                  have k3 : (i : Int) < (N : Int) := by omega
                  have k4 : (j : Int) < (N : Int) := by omega
                  obtain ⟨p4, g4, rfl, hp4, hgs, hg4, s4, q4⟩ := hT.out.num (Nat.le_refl _) (i := i) (j := j) hlti hltj
                  have f4 := hT.out.frz hgs j
                  have hlo := Lib.hid (hT.out.lt hgs).1
                  have Hgs := Lib.hid hgs
                  have Hj1 := Lib.hid hj1
                  clear hgs
                  have i3 : (i : Int) ≤ (j : Int) := by omega
                  have hx1 := Lib.hid (ext_oneS hips)
                  by_cases hcp : p[i]'hips = cc
                  · have hex : p.extract i j = ⟨#[cc]⟩ := by rw [hj1, hx1.out, hcp]
                    have HF := Lib.hid (show fin i j = 1 % m by
                      rw [hf]; unfold scU
                      rw [if_neg (by omega), if_pos ?_]
                      refine ⟨hj1, hips, by omega, ?_⟩
                      rw [letN_one, List.getD_eq_getElem?_getD, at_byte p i hips]
                      show ((p[i]'hips).toNat : Int) - 97 = _
                      rw [hcp]; omega)
                    have hset := Lib.hid (hT.out.set (Y' := fun a b => if a = i ∧ b = j then 1 % m else Y a b) (Nat.le_refl _) hlti hltj Hgs.out (1 % m) (by simp) (fun a b h => by simp only [h, if_false]))
                    have hput := Lib.hid (hY.out.put HF.out)
                    have hbs := Lib.hid (hbj.setCell (p := ⟨g4, j, none⟩) hlo.out (.int .i64 (1 % m)))
                    clear hcp hj1 hf hY
                    generalize 1 % m = v at *
                    go_wp2_with fail
                    go_region
                    go_wp2_with fail
                    go_region
                    generalize hW : World.drew _ = w8
                    have H8 := Lib.hid hW.symm; clear hW
                    have T8 := Lib.hid (show TabJ w8 w3.heap.size (some ⟨p4, 0, none⟩) N c4 N gs4 (tabL N (fun a b => if a = i ∧ b = j then v else Y a b)) by rw [H8.out]; exact hset.out.next (Below.refl _ _).drew.drew)
                    have b8 : Below w3.heap.size w3 w8 := by rw [H8.out]; exact hbs.out.drew.drew
                    clear H8 hset hbs u1 v1 s4 q4 f4
                    go_wp2_with fail
                    go_roundw
                    case rel => exact ⟨j + 1, _, by go_num, by omega, by omega, T8, hput, b8⟩
                    case measure => simp [intOf]; omega
                  · have hex : p.extract i j = ⟨#[p[i]'hips]⟩ := by rw [hj1, hx1.out]
                    have HF := Lib.hid (show fin i j = scId m i j by
                      rw [hf]; unfold scU scId
                      rw [if_neg (by omega), if_neg ?_, if_neg (by omega)]
                      rintro ⟨_, _, _, h⟩
                      rw [letN_one, List.getD_eq_getElem?_getD, at_byte p i hips] at h
                      have h' : ((p[i]'hips).toNat : Int) - 97 = ((cc.toNat - 97 : Nat) : Int) := h
                      have b97 := (letB_num ((okW_b HP.out).2 i hips)).1
                      exact hcp (UInt8.toNat_inj.1 (by omega)))
                    have hk := Lib.hid (hY.out.keep HF.out)
                    generalize p[i]'hips = cd at *
                    have hbe : (cd == cc) = false := by simpa using hcp
                    clear hf hY hj1 s4 q4 f4 hlo
                    go_wp2_with fail
                    go_region
                    clear u1 v1
                    go_wp2_with fail
                    go_roundw
                    case rel => exact ⟨j + 1, Y, by go_num, by omega, by omega, hT.out.next (Below.refl _ _).drew, hk, hbj.drew⟩
                    case measure => simp [intOf]; omega
                · have k1 : ((j : Int) == (i : Int) + 1) = false := by simp; omega
                  have hk := Lib.hid (hY.out.keep (show fin i j = scId m i j by
                    rw [hf]; unfold scU scId
                    by_cases h1 : j = i
                    · rw [if_pos h1, if_pos h1]
                    · rw [if_neg h1, if_neg h1, if_neg (by omega)]))
                  clear hf hY
                  go_wp2_with fail
                  go_region
                  clear u1 v1
                  go_wp2_with fail
                  go_roundw
                  case rel => exact ⟨j + 1, Y, by go_num, by omega, by omega, hT.out.next (Below.refl _ _).drew, hk, hbj.drew⟩
                  case measure => simp [intOf]; omega
            · have hjN : N = j := by omega
              subst hjN
              have hjp : ¬ ((N : Int) ≤ (p.size : Int)) := by omega
              go_wp2_with fail
              go_roundw
              case rel => exact ⟨i + 1, Y, by go_num, by omega, hT, Lib.hid hY.out.over, hbj⟩
              case measure => simp [intOf]; omega
        · have hiN : N = i := by omega
          subst hiN
          have hip : ¬ ((N : Int) ≤ (p.size : Int)) := by omega
          have sw := hb.size
          have TF := Lib.hid (show TabN N w.heap.size wr (.slice A4 N c4) fin from ⟨A4, c4, gs4, rfl, by rw [← hY.out.done]; exact hT.out.mono (Nat.le_trans sw hb3.size)⟩)
          have hbr := Lib.hid (hb3.trans (hbi.mono hb3.size))
          have ownr := Lib.hid (own_next own3.out hbi)
          have repr := Lib.hid (rep3.out.next RO hbi)
          have bw := hb.trans (hbr.out.mono sw)
          go_wp2_with
            (at_builtin
             refine wpList_push (w0 := w) rfl _ _ _ rfl w.heap.size 38 1 24 elemW encV _ k c' vs rfl (ownr.out.alloc _) wr.heap.size (.slice A4 N c4) #[.slice A4 N c4] 38 (0, 0) rfl (heap_alloc_new _ _) rfl rfl (by simp [encV, Value.oneCell']) (by omega) (by omega) (by unfold maxLen; omega) rfl (bw.alloc bw.size _) ?_
             intro A9 c9 w9 own9 hg9 hat9 hb9
             have R9 := Lib.hid (repr.out.push RO ownr.out TF.out _ hg9)
             have O9 := Lib.hid own9
             clear own9 hat9 hg9)
          go_roundw
          case rel =>
            refine ⟨k + 1, A9, c9, _, by go_num, rfl, by omega, O9, Lib.hid ?_, hb9⟩
            rw [Hst.out]; exact R9.out
          case measure => simp [intOf]; omega
    · have hkn : n = k := by omega
      subst hkn
      have sw := hb.size
      have hol := outs_len scNil (fun l => scU p m (l : Int)) (scG m) rs n (by rw [hl.out]; exact Nat.le_refl _)
      have hoa := outs_all scNil (fun l => scU p m (l : Int)) (scG m) rs n (by rw [hl.out]; exact Nat.le_refl _)
      by_cases h0 : n = 0
      · have eT := Lib.hid (show scTop rs p m = scId m by
          unfold scTop; rw [if_pos (by rw [hl.out]; exact h0)]
          funext a b
          unfold scU scId
          by_cases h1 : b = a
          · rw [if_pos h1, if_pos h1]
          · rw [if_neg h1, if_neg h1, if_neg (by omega)])
        have e9 : ((n : Int) == 0) = true := by simpa using h0
        clear h0 hol hoa
        go_wp2_with fail
        refine (HT.out wo).mono ?_
        rintro e5 w5 ⟨v5, rfl, hT5, hb5⟩
        have T5 := Lib.hid (hT5.mono sw)
        obtain ⟨A5, c5, gs5, rfl, _⟩ := hT5
        go_wp2_with fail
        go_ret
        rw [eT.out]
        exact ret_rep T5.out (hb.trans (hb5.mono sw))
      · have e9 : ((n : Int) == 0) = false := by simpa using h0
        have hlr := hl.out
        obtain ⟨g, v, eA, hgl, hcv, hv, hTN⟩ := scat_last (ys := outs scNil (fun l => scU p m (l : Int)) (scG m) rs n) (E := scTop rs p m) (by rw [hol]; exact hown.out) hrep.out (by rw [hol]; omega) (by
          rw [hol, hoa]; unfold scTop; rw [if_neg (by omega), hlr])
        rw [hol] at hcv
        subst eA
        have T5 := Lib.hid hTN
        obtain ⟨A5, n5, c5, rfl⟩ := hv
        have q1 : (1 : Int) ≤ (n : Int) := by omega
        have q2 : (n : Int) - 1 < (n : Int) := by omega
        clear hol hoa hTN h0
        go_wp2_with fail
        go_ret
        exact ret_rep T5.out hb
end Go.Proofs.Ytkknhpailohjcaa
