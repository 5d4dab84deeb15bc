/-
  PhraseGrammar in the reference.
-/
import Derived.Test.YtikhjoianbndhaaPhgP
import Derived.Test.YtikhjoianbndhaaLtrS
namespace Go.Proofs.Ytikhjoianbndhaa
open Go.RowKit

theorem rd_take {α : Type} {w : World} {B n sz : Nat} {A : Option Addr} {enc : α → List Value} {xs : List α} (h : Rd w B A n sz enc xs) {k : Nat} (hk : k ≤ n) : Rd w B A k sz enc (xs.take k) := by
  refine ⟨by rw [List.length_take, h.1]; omega, fun hp => ?_⟩
  obtain ⟨b, o, hA, hb, hc⟩ := h.2 (by omega)
  refine ⟨b, o, hA, hb, fun i x hx j v hv => hc i x ?_ j v hv⟩
  rw [List.getElem?_take] at hx
  split at hx
  · exact hx
  · cases hx
theorem cap_le {w : World} {base e sz n c : Nat} {A : Option Addr} {xs : List Value} (h : w.ownsRow base e sz (.slice A n c) n xs) : n ≤ c := by
  rcases h.2 with ⟨_, h0⟩ | ⟨g, cap, cur, hv, _, _, hnc, _⟩
  · omega
  · injection hv with _ _ hc; omega
/-- how far the phrases before one reach -/
def atS (ps : List ByteArray) (j : Nat) : Nat := (catS (ps.take j)).size
theorem atS_step {ps : List ByteArray} {j : Nat} {p : ByteArray} (h : ps[j]? = some p) : atS ps (j + 1) = atS ps j + p.size := by
  unfold atS
  have hj := (List.getElem?_eq_some_iff.1 h).1
  rw [List.take_succ_eq_append_getElem hj, catS_app, ByteArray.size_append]
  have e : ps[j] = p := (List.getElem?_eq_some_iff.1 h).2
  rw [e, show catS [p] = p from app_empty' p]
theorem atS_last {ps : List ByteArray} {j : Nat} {p : ByteArray} (h : ps[j]? = some p) (h0 : 0 < p.size) : ∃ c, lastS p = ⟨#[c]⟩ ∧ (catS ps).data.toList[atS ps j + p.size - 1]? = some c := by
  obtain ⟨c, _, hc⟩ := lastS_one h0
  refine ⟨c, hc, ?_⟩
  have hj := (List.getElem?_eq_some_iff.1 h).1
  have e : ps = ps.take j ++ p :: ps.drop (j + 1) := by
    rw [← drop_cons h, List.take_append_drop]
  have hl : p.data.toList[p.size - 1]? = some c := by
    have h1 : (p.extract (p.size - 1) p.size).data.toList = [c] := congrArg (fun b : ByteArray => b.data.toList) hc
    rw [ByteArray.data_extract, Array.toList_extract, List.extract_eq_take_drop] at h1
    have h2 : (List.take (p.size - (p.size - 1)) (List.drop (p.size - 1) p.data.toList))[0]? = some c := by rw [h1]; rfl
    rw [List.getElem?_take, if_pos (by omega), List.getElem?_drop] at h2
    exact h2
  have key : catS ps = catS (ps.take j) ++ (p ++ catS (ps.drop (j + 1))) := by
    conv => lhs; rw [e]
    rw [catS_app]; rfl
  rw [key, ByteArray.data_append, Array.toList_append, List.getElem?_append_right (by rw [byte_len]; unfold atS; omega)]
  rw [ByteArray.data_append, Array.toList_append, List.getElem?_append_left (by rw [byte_len, byte_len]; unfold atS; omega)]
  rw [byte_len]
  rw [show atS ps j + p.size - 1 - (catS (ps.take j)).size = p.size - 1 by unfold atS; omega]
  exact hl
theorem numsP_len (w : List UInt8) : (numsP w).length = w.length := by simp [numsP]
theorem numsP_at {w : List UInt8} {i : Nat} {c : UInt8} (h : w[i]? = some c) : (numsP w)[i]? = some (atP w c) := by
  unfold numsP
  rw [List.getElem?_map, h]; rfl
theorem pv_at {w : List UInt8} {S : PhS} {ps : List ByteArray} {j t : Nat} {q : ByteArray} (h : PhI w S (ps.take j)) (ht : t < j) (hq : ps[t]? = some q) : S.pl[t]? = some ((S.m q).getD 0) := by
  rw [h.pv, List.getElem?_map, List.getElem?_take, if_pos ht, hq]; rfl
/-- 'PhraseGrammar' of the reference under way -/
structure PsW (w1 W : World) (LB : Nat) (A : Option Addr) (n c : Nat) (rs : List Fac) (KA : Option Addr) (kn kc : Nat) (nums : List Int) (L : Option Addr) (m d : Nat) (pl : List Int) (pv : Value) (np : Nat) (ps : List ByteArray) : Prop where
  q : W.ownsRow w1.heap.size 44 3 (.slice A n c) n (rs.flatMap Fac.cells)
  k : W.ownsRow w1.heap.size 2 1 (.slice KA kn kc) kn (nums.flatMap intE)
  l : W.ownsRow LB 2 1 (.slice L m d) m (pl.flatMap intE)
  f : W.ownsRow w1.heap.size 9 1 pv np (ps.flatMap strE)
  e : Below w1.heap.size w1 W
  hb : w1.heap.size ≤ LB ∧ LB ≤ W.heap.size
  hk : ∀ b, (Value.slice KA kn kc).ownBlock = some b → b < LB
section
variable {w1 W W' : World} {LB : Nat} {A : Option Addr} {n c : Nat} {rs : List Fac} {KA : Option Addr} {kn kc : Nat} {nums : List Int} {L : Option Addr} {m d : Nat} {pl : List Int} {pv : Value} {np : Nat} {ps : List ByteArray}
theorem PsW.next (h : PsW w1 W LB A n c rs KA kn kc nums L m d pl pv np ps) (hb : Below W.heap.size W W') : PsW w1 W' LB A n c rs KA kn kc nums L m d pl pv np ps :=
  ⟨own_next h.q hb, own_next h.k hb, own_next h.l hb, own_next h.f hb, h.e.trans (hb.mono h.e.size), ⟨h.hb.1, Nat.le_trans h.hb.2 hb.size⟩, h.hk⟩
theorem PsW.alloc (h : PsW w1 W LB A n c rs KA kn kc nums L m d pl pv np ps) (o : Obj) : PsW w1 (W.alloc o) LB A n c rs KA kn kc nums L m d pl pv np ps := h.next ((Below.refl _ _).alloc (Nat.le_refl _) _)
theorem PsW.pushR {A8 : Option Addr} {k8 c8 : Nat} {rs' : List Fac} (h : PsW w1 W LB A n c rs KA kn kc nums L m d pl pv np ps) (hq : W'.ownsRow w1.heap.size 44 3 (.slice A8 k8 c8) k8 (rs'.flatMap Fac.cells)) (hg : W.grownBy W' (Value.slice A n c).ownBlock) :
    PsW w1 W' LB A8 k8 c8 rs' KA kn kc nums L m d pl pv np ps :=
  ⟨hq, h.k.kept hg (own_ne h.k h.q (by decide)), h.l.kept hg (own_ne h.l h.q (by decide)), h.f.kept hg (own_ne h.f h.q (by decide)), h.e.grown hg h.e.size (own_ge h.q), ⟨h.hb.1, Nat.le_trans h.hb.2 hg.4⟩, h.hk⟩
theorem PsW.pushL {L8 : Option Addr} {k8 c8 : Nat} {pl' : List Int} (h : PsW w1 W LB A n c rs KA kn kc nums L m d pl pv np ps) (hq : W'.ownsRow LB 2 1 (.slice L8 k8 c8) k8 (pl'.flatMap intE)) (hg : W.grownBy W' (Value.slice L m d).ownBlock) :
    PsW w1 W' LB A n c rs KA kn kc nums L8 k8 c8 pl' pv np ps := by
  refine ⟨h.q.kept hg (own_ne h.q h.l (by decide)), h.k.kept hg ?_, hq, h.f.kept hg (own_ne h.f h.l (by decide)), h.e.grown hg h.e.size (fun k hk => Nat.le_trans h.hb.1 (own_ge h.l k hk)), ⟨h.hb.1, Nat.le_trans h.hb.2 hg.4⟩, h.hk⟩
  cases hv : (Value.slice KA kn kc).ownBlock with
  | none => exact .inl rfl
  | some b => exact .inr fun e => by have h1 := h.hk b hv; have h2 := own_ge h.l b e.symm; omega
end
set_option maxHeartbeats 8000000 in
set_option maxRecDepth 100000 in
theorem specPhG_any (s : ByteArray) (w : World) (hs : s.size ≤ 1048576) : Calls Try.prog 7 #[.string s] w (RetGC w (pgF s) (pgC s)) := by
  rcases ho : okW s with _ | _
  · have Ho := Lib.hid ho
    have hT := Lib.hid (show pgF s = [] by unfold pgF; rw [ho]; rfl)
    have hC := Lib.hid (show pgC s = 1 by unfold pgC; rw [ho]; rfl)
    rw [hT.out, hC.out]
    clear ho hT hC
    go_enter Try.func7, Try.ntmps7
    go_wp2_with fail
    refine (specOk_any s false _ (by unfold maxLen; omega) Ho.out).mono ?_
    rintro e w1 ⟨rfl, hb1⟩
    have B1 := (Blk.new w 24 #[.slice none 0 0]).next hb1
    have b1 : Below w.heap.size w w1 := ((Below.refl w.heap.size w).alloc (Nat.le_refl _) (.cells #[.slice none 0 0] 24)).trans (hb1.mono (by simp))
    have d1 := B1.cell 0
    have f1 := B1.frozen
    have l1 := B1.lt
    have B5 := B1.set_ 0 (.slice none 0 0)
    have x5 : (w1.setCell ⟨w.heap.size, 0, none⟩ (.slice none 0 0)).cell? ⟨w.heap.size, 0, none⟩ = some (.slice none 0 0) := by rw [B5.cell 0]; rfl
    have b5 := b1.setCell (p := ⟨w.heap.size, 0, none⟩) (Nat.le_refl _) (.slice none 0 0)
    clear B5 B1
    go_wp2_with fail
    refine bodyPost_ret (v := .tuple #[.agg #[.slice none 0 0], .int .i64 1]) (by simp [results, Try.results7, go_sem, x5]) rfl ⟨none, 0, rfl, World.ownsRow_nil _ _ _ _, b5⟩
  · have Ho := Lib.hid ho
    have hT := Lib.hid (show pgF s = toldF (phgL s) by unfold pgF; rw [ho]; rfl)
    have hC := Lib.hid (show pgC s = toldC (phgL s) by unfold pgC; rw [ho]; rfl)
    rw [hT.out, hC.out]
    have hs2 := okW_len2 ho
    have hkl := ksP_len s.data.toList
    have hnp := phr_len' ho
    have HOk := Lib.hid (phOk_of hs2)
    clear ho hT hC
    go_enter Try.func7, Try.ntmps7
    go_wp2_with fail
    refine namedC fun w1 H1 => ?_
    have hb1 : Below w.heap.size w w1 := by rw [H1.out]; (repeat first | exact Below.refl _ _ | assumption | refine Below.drew ?_ | refine Below.alloc ?_ (by first | exact Nat.le_refl _ | (simp; done) | omega | (simp; omega)) _ | refine Below.setCell ?_ (by first | exact Nat.le_refl _ | (simp; done) | omega | (simp; omega)) _)
    have B1 := Lib.hid (show Blk w1 w.heap.size 24 #[.slice none 0 0] by rw [H1.out]; exact Blk.new _ _ _)
    have hsz : w.heap.size < w1.heap.size := B1.out.lt
    clear H1
    refine (specOk_any s true _ (by unfold maxLen; omega) Ho.out).mono ?_
    rintro e w2 ⟨rfl, hb2⟩
    go_wp2_with fail
    refine (l06Letters_any s w2 Ho.out).mono ?_
    rintro e w3 ⟨A, c, KA, kc, rfl, own3, ownk, hb3⟩
    have b3 : Below w1.heap.size w1 w3 := hb2.trans (hb3.mono hb2.size)
    have O3 := Lib.hid (own3.mono hb2.size)
    have K3 := Lib.hid (ownk.mono hb2.size)
    clear own3 ownk
    obtain ⟨n, hn⟩ : ∃ n, (lettersP s.data.toList).length = n := ⟨_, rfl⟩
    obtain ⟨kn, hkn⟩ : ∃ kn, (numsP s.data.toList).length = kn := ⟨_, rfl⟩
    have hn4 : n ≤ 4 := by rw [← hn]; simp [lettersP]; exact hkl
    have hkn2 : kn = s.size := by rw [← hkn, numsP_len, byte_len]
    have HN := Lib.hid hn
    have HKN := Lib.hid hkn
    rw [hn] at O3
    rw [hkn] at K3
    simp only [sliceV, hn, hkn]
    clear hn hkn hb3
    subst hkn2
    go_wp2_with fail
    refine (specPhrases_any s w3 hs2).mono ?_
    rintro e w4 ⟨PA, pc, rfl, ownP, hb4⟩
    obtain ⟨np, hnpe⟩ : ∃ np, (phr s 0 []).length = np := ⟨_, rfl⟩
    obtain ⟨ps, hpse⟩ : ∃ ps, phr s 0 [] = ps := ⟨_, rfl⟩
    have I0 := phI_init (w := s.data.toList) (fun c hc => by
      have h := Ho.out
      unfold okW at h
      simp only [Bool.and_eq_true, List.all_eq_true] at h
      exact h.2 c hc)
    have SG0 : phGo ps (phg0 s.data.toList) = phgS s := by rw [← hpse]; rfl
    have HCat := Lib.hid (show catS ps = s by rw [← hpse]; exact cat_phr s)
    rw [hnpe, hpse] at ownP
    rw [hpse] at hnpe HOk
    rw [hpse] at hnp
    rw [hnpe] at hnp
    have HNP := Lib.hid hnpe
    have HI0 := Lib.hid I0
    have HG0 := Lib.hid SG0
    have b4 : Below w1.heap.size w1 w4 := b3.trans (hb4.mono b3.size)
    have Q4 := Lib.hid (own_next O3.out hb4)
    have K4 := Lib.hid (own_next K3.out hb4)
    have F4 := Lib.hid (ownP.mono b3.size)
    simp only [hpse, hnpe]
    clear I0 SG0 ownP hnpe hpse O3 K3
    go_wp2_with fail
    refine named fun w5 H5 => ?_
    have hb5 : Below w4.heap.size w4 w5 := by rw [H5.out]; (repeat first | exact Below.refl _ _ | assumption | refine Below.drew ?_ | refine Below.alloc ?_ (by first | exact Nat.le_refl _ | (simp; done) | omega | (simp; omega)) _ | refine Below.setCell ?_ (by first | exact Nat.le_refl _ | (simp; done) | omega | (simp; omega)) _)
    have P5 := Lib.hid (show PsW w1 w5 w4.heap.size A n c (lettersP s.data.toList) KA s.size kc (numsP s.data.toList) (some ⟨w4.heap.size, 0, none⟩) 0 0 [] (.slice PA np pc) np ps from
      ⟨own_next Q4.out hb5, own_next K4.out hb5, by
        rw [H5.out]
        have h := World.ownsRow_made (base := w4.heap.size) (e := 2) (size := 1) w4 #[] 0 (Nat.le_refl _) (by unfold maxLen; omega) rfl
        simpa using h, own_next F4.out hb5, b4.trans (hb5.mono b4.size), ⟨b4.size, hb5.size⟩, fun b hb => (K4.out.lt b hb).2⟩)
    clear H5 hb5 b4 Q4 K4 F4 hb4 b3 hb2
    generalize w4.heap.size = LB at *
    go_loopw [4, 7, 8, 9] (fun r_ l_ a_ j_ w' => ∃ (j n at_ : Nat) (A : Option Addr) (c : Nat) (L : Option Addr) (d : Nat) (S : PhS), r_ = .slice A n c ∧ l_ = .slice L j d ∧ a_ = .int .i64 at_ ∧ j_ = .int .i64 j ∧ j ≤ np ∧ n ≤ 4 + j ∧ n ≤ 400 ∧
      Hid (at_ = atS ps j) ∧ Hid (S.rs.length = n) ∧ Hid (S.pl.length = j) ∧ Hid (PhI s.data.toList S (ps.take j)) ∧ Hid (phGo (ps.drop j) S = phgS s) ∧
      Hid (PsW w1 w' LB A n c S.rs KA s.size kc (numsP s.data.toList) L j d S.pl (.slice PA np pc) np ps)) (fun _ _ _ j_ _ => np - (intOf j_).toNat)
    case atStart => exact ⟨0, n, 0, A, c, _, 0, phg0 s.data.toList, rfl, rfl, rfl, rfl, by omega, by omega, by omega, Lib.hid rfl, HN, Lib.hid rfl, Lib.hid (by rw [List.take_zero]; exact HI0.out), HG0, P5⟩
    case round =>
      clear P5 HI0 HG0 HN
      obtain ⟨j, n, at_, A, c, L, d, S, rfl, rfl, rfl, rfl, hj, hn4, hn400, Hat, HSn, HSp, HI, HG, P1⟩ := hrel
      by_cases hlt : j < np
      · obtain ⟨b, o, p, rfl, hB, gx, c0⟩ := (Rd.of_own (enc := strE) (fun _ _ => rfl) HNP.out P1.out.f).str hlt
        obtain ⟨hp0, hp1, hp2, hp3⟩ := HOk.out j p gx
        have HGs := Lib.hid (show phGo (ps.drop (j + 1)) (phStep S p) = phgS s by rw [← HG.out, drop_cons gx]; rfl)
        have hst := HI.out.step hp0 hp1 hp2 hp3
        have htk : ps.take j ++ [p] = ps.take (j + 1) := by
          rw [List.take_succ_eq_append_getElem (by have := HNP.out; omega)]
          congr 2
          exact ((List.getElem?_eq_some_iff.1 gx).2).symm
        rw [htk] at hst
        have HIs := Lib.hid hst
        obtain ⟨cl, hcl, hcl2⟩ := atS_last gx hp0
        rw [HCat.out, ← Hat.out] at hcl2
        have has := atS_step gx
        rw [← Hat.out] at has
        have hcm : cl ∈ s.data.toList := List.mem_of_getElem? hcl2
        have hml := HI.out.mc cl hcm
        have hnum := numsP_at hcl2
        obtain ⟨q, hq⟩ : ∃ q, at_ + p.size - 1 = q := ⟨_, rfl⟩
        rw [hq] at hcl2 hnum
        have hqs : q < s.size := by
          have := (List.getElem?_eq_some_iff.1 hcl2).1
          rw [byte_len] at this; exact this
        obtain ⟨gk, hKA, hgk0, hgk1, hck⟩ := own_int P1.out.k HKN.out (q : Int) (by omega) (by omega)
        subst hKA
        rw [Int.toNat_natCast, List.getD_eq_getElem?_getD, hnum, Option.getD_some] at hck
        obtain ⟨v, hv⟩ : ∃ v, atP s.data.toList cl = v := ⟨_, rfl⟩
        rw [hv] at hck hml
        have u1 : IntKind.i64.wrap ((at_ : Int) + (p.size : Int)) = (at_ : Int) + (p.size : Int) := IntWalk.i64_in _ (by omega)
        have u2 : IntKind.i64.wrap ((at_ : Int) + (p.size : Int) - 1) = (q : Int) := by rw [IntWalk.i64_in _ (by omega)]; omega
        have u3 : ((at_ : Int) + (p.size : Int)) = ((atS ps (j + 1) : Nat) : Int) := by omega
        have q0 : (0 : Int) ≤ (q : Int) := by omega
        have q1 : (q : Int) < (s.size : Int) := by omega
        have j0 : (0 : Int) ≤ (j : Int) := by omega
        have j1 : (j : Int) < (np : Int) := by omega
        have j2 : (j : Int) ≤ (pc : Int) := by have := cap_le P1.out.f; omega
        have U3 := Lib.hid u3
        have HQ := Lib.hid hq
        have HP2 := Lib.hid hp2
        have HP3 := Lib.hid hp3
        have HCl := Lib.hid hcl
        have GX := Lib.hid gx
        have RP := Lib.hid (fun (W : World) (P : PsW w1 W LB A n c S.rs (some ⟨gk, 0, none⟩) s.size kc (numsP s.data.toList) L j d S.pl (.slice (some ⟨b, o, none⟩) np pc) np ps) => specFind_any (some ⟨b, o, none⟩) j pc (ps.take j) p W (by unfold maxLen; omega) (rd_take (Rd.of_own (enc := strE) (fun _ _ => rfl) HNP.out P.f) (by omega)))
        clear hst htk gx hp2 hp3 u3 hq hcl hcl2 hnum has hv hcm
        by_cases hmem : p ∈ ps.take j
        · obtain ⟨t, ht, htp⟩ := findS_at p (ps.take j) 0 hmem
          have htj : t < j := by have := (List.getElem?_eq_some_iff.1 htp).1; rw [List.length_take] at this; omega
          have htp2 : ps[t]? = some p := by rw [List.getElem?_take, if_pos htj] at htp; exact htp
          have hpv := pv_at HI.out htj htp2
          have hmd := HI.out.md p hmem
          obtain ⟨k, hk⟩ : ∃ k, S.m p = some k := Option.isSome_iff_exists.1 hmd
          rw [hk, Option.getD_some] at hpv
          have es : phStep S p = ⟨S.rs, S.m, S.pl ++ [k]⟩ := by unfold phStep; rw [hk]
          rw [es] at HGs HIs
          rw [show (0 : Int) + (t : Int) = (t : Int) by omega] at ht
          have HT := Lib.hid ht
          have HPv := Lib.hid hpv
          have t0 : (0 : Int) ≤ (t : Int) := by omega
          have t1 : (t : Int) < (j : Int) := by omega
          clear hmem ht htp htp2 hpv hmd hk es hml
          go_wp2_with fail
          refine (RP.out wr P1.out).mono ?_
          rw [HT.out]
          rintro e w6 ⟨rfl, hb6⟩
          have P6 := Lib.hid (P1.out.next hb6)
          obtain ⟨gl, hLA, hgl0, hgl1, hcl6⟩ := own_int P6.out.l HSp.out (t : Int) t0 t1
          subst hLA
          rw [Int.toNat_natCast, List.getD_eq_getElem?_getD, HPv.out, Option.getD_some] at hcl6
          have P7 := Lib.hid (P6.out.alloc (.cells #[.int .i64 k] 2))
          go_wp2_with
            (at_builtin
             refine wpList_app rfl _ _ _ rfl LB 2 1 8 elem_int intE (some ⟨gl, 0, none⟩) j d S.pl rfl P7.out.l ⟨w6.heap.size, 0, none⟩ 1 1 [k] rfl rfl (by omega) (news1i (Blk.new w6 2 #[.int .i64 k])) (fun _ _ => rfl) (by simp [intE, Value.oneCell']) (by omega) (by omega) (by unfold maxLen; omega) P7.out.hb.2 ?_
             intro A8 c8 w8 own8 hg8 hat8
             have P8 := Lib.hid (P7.out.pushL own8 hg8))
          go_roundw
          case rel => exact ⟨j + 1, n, atS ps (j + 1), A, c, A8, c8, ⟨S.rs, S.m, S.pl ++ [k]⟩, rfl, rfl, by rw [← U3.out], by go_num, by omega, by omega, hn400, Lib.hid rfl, HSn, Lib.hid (by rw [List.length_append, HSp.out]; rfl), HIs, HGs, P8⟩
          case measure => simp [intOf]; omega
        · have HNo := Lib.hid (findS_no p (ps.take j) 0 hmem)
          by_cases h1 : p.size = 1
          · have hm : S.m p = some v := by
              have e : lastS p = p := by
                obtain ⟨c', rfl⟩ := one_byte h1
                unfold lastS
                rw [h1]
                apply ba_ext'
                rw [ByteArray.data_extract, Array.toList_extract, List.extract_eq_take_drop]; rfl
              rw [← HCl.out, e] at hml; exact hml
            have es : phStep S p = ⟨S.rs, S.m, S.pl ++ [v]⟩ := by unfold phStep; rw [hm]
            rw [es] at HGs HIs
            obtain rfl : q = at_ := by have := HQ.out; omega
            have v1 : IntKind.i64.wrap ((q : Int) + 1) = (q : Int) + 1 := IntWalk.i64_in _ (by omega)
            have v2 : IntKind.i64.wrap ((q : Int) + 1 - 1) = (q : Int) := by rw [IntWalk.i64_in _ (by omega)]; omega
            have v3 : IntKind.i64.wrap (q : Int) = (q : Int) := IntWalk.i64_in _ (by omega)
            clear es hm hml hmem u1 u2
            go_wp2_with fail
            refine (RP.out wr P1.out).mono ?_
            rw [HNo.out]
            rintro e w6 ⟨rfl, hb6⟩
            have P6 := Lib.hid (P1.out.next hb6)
            have P7 := Lib.hid (P6.out.alloc (.cells #[.int .i64 v] 2))
            go_wp2_with
              (at_builtin
               refine wpList_app rfl _ _ _ rfl LB 2 1 8 elem_int intE L j d S.pl rfl P7.out.l ⟨w6.heap.size, 0, none⟩ 1 1 [v] rfl rfl (by omega) (news1i (Blk.new w6 2 #[.int .i64 v])) (fun _ _ => rfl) (by simp [intE, Value.oneCell']) (by omega) (by omega) (by unfold maxLen; omega) P7.out.hb.2 ?_
               intro A8 c8 w8 own8 hg8 hat8
               have P8 := Lib.hid (P7.out.pushL own8 hg8))
            go_roundw
            case rel => exact ⟨j + 1, n, atS ps (j + 1), A, c, A8, c8, ⟨S.rs, S.m, S.pl ++ [v]⟩, rfl, rfl, by rw [← U3.out]; simp [h1], by go_num, by omega, by omega, hn400, Lib.hid rfl, HSn, Lib.hid (by rw [List.length_append, HSp.out]; rfl), HIs, HGs, P8⟩
            case measure => simp [intOf]; omega
          · have hsm : S.m p = none := by
              cases e : S.m p with
              | none => rfl
              | some k =>
                rcases HI.out.mn p k e with q | q
                · exact absurd q hmem
                · exact absurd q h1
            obtain ⟨_, h2, a, b', ha, hb'⟩ := HI.out.parts hsm hp0 HP2.out HP3.out
            have hbv : b' = v := by
              rw [HCl.out, hml] at hb'
              injection hb' with hb'; exact hb'.symm
            subst hbv
            have es : phStep S p = ⟨S.rs ++ [⟨⟨#[]⟩, a, b'⟩], numPut S.m p (n : Int), S.pl ++ [(n : Int)]⟩ := by unfold phStep; rw [hsm, ha, hb']; simp only [Option.getD_some, HSn.out]
            rw [es] at HGs HIs
            obtain ⟨t, ht, htp⟩ := findS_at (initS p) (ps.take j) 0 h2
            have htj : t < j := by have := (List.getElem?_eq_some_iff.1 htp).1; rw [List.length_take] at this; omega
            have htp2 : ps[t]? = some (initS p) := by rw [List.getElem?_take, if_pos htj] at htp; exact htp
            have hpv := pv_at HI.out htj htp2
            rw [ha, Option.getD_some] at hpv
            have ht2 : findS (initS p) ps 0 = (t : Int) := by
              have := findS_app (initS p) (ps.drop j) (ps.take j) 0 h2
              rw [List.take_append_drop] at this
              rw [this, ht]; omega
            obtain ⟨n1, hn1⟩ : ∃ n1, p.size = n1 + 1 := ⟨p.size - 1, by omega⟩
            have hin : initS p = p.extract 0 n1 := by unfold initS; rw [show p.size - 1 = n1 by omega]
            rw [hin] at ht2
            have R2 := Lib.hid (fun (W : World) (P : PsW w1 W LB A n c S.rs (some ⟨gk, 0, none⟩) s.size kc (numsP s.data.toList) L j d S.pl (.slice (some ⟨b, o, none⟩) np pc) np ps) => specFind_any (some ⟨b, o, none⟩) np pc ps (p.extract 0 n1) W (by unfold maxLen; omega) (Rd.of_own (enc := strE) (fun _ _ => rfl) HNP.out P.f))
            have HT := Lib.hid ht2
            have hgetd : (S.pl ++ [(n : Int)]).getD t 0 = a := by
              rw [List.getD_eq_getElem?_getD, List.getElem?_append_left (by rw [HSp.out]; exact htj), hpv]; rfl
            have HPv := Lib.hid hgetd
            have u4 : IntKind.i64.wrap ((p.size : Int) - 1) = (n1 : Int) := by rw [IntWalk.i64_in _ (by omega)]; omega
            have p0 : (0 : Int) ≤ (n1 : Int) := by omega
            have p1 : (n1 : Int) ≤ (p.size : Int) := by omega
            have h1' : ¬ ((p.size : Int) = 1) := by omega
            have t0 : (0 : Int) ≤ (t : Int) := by omega
            have t1 : (t : Int) < (j : Int) + 1 := by omega
            obtain ⟨y, hy⟩ : ∃ y : Fac, ⟨⟨#[]⟩, a, b'⟩ = y := ⟨_, rfl⟩
            have HY := Lib.hid hy
            have hgrow := (phGo_grow (ps.drop (j + 1)) ⟨S.rs ++ [⟨⟨#[]⟩, a, b'⟩], numPut S.m p (n : Int), S.pl ++ [(n : Int)]⟩).1
            rw [HGs.out] at hgrow
            have HGr := Lib.hid (show n + 1 ≤ (phgS s).rs.length by simp only [List.length_append, HSn.out] at hgrow; exact hgrow)
            rw [hy] at HGs HIs
            have ey : (#[.string ⟨#[]⟩, .int .i64 a, .int .i64 b'] : Array Value) = #[.string y.l, .int .i64 y.a, .int .i64 y.b] := by rw [← hy]
            have EY := Lib.hid ey
            clear hsm h2 ha hb' es ht htp htp2 hpv ht2 hin hgetd hn1 hgrow hmem h1 ey hml hy
            go_wp2_with fail
            refine (RP.out wr P1.out).mono ?_
            rw [HNo.out]
            rintro e w6 ⟨rfl, hb6⟩
            have P6 := Lib.hid (P1.out.next hb6)
            go_wp2_with fail
            refine (R2.out w6 P6.out).mono ?_
            rw [HT.out]
            rintro e w7 ⟨rfl, hb7⟩
            have P7 := Lib.hid (P6.out.next hb7)
            have P8 := Lib.hid (P7.out.alloc (.cells #[.int .i64 (n : Int)] 2))
            by_cases h400 : 400 < n + 1
            all_goals
              go_wp2_with
                (first
                  | (at_builtin
                     refine wpList_app rfl _ _ _ rfl w1.heap.size 44 3 32 elem_rule Fac.cells A n c S.rs rfl P10.out.q ⟨w9.heap.size, 0, none⟩ 1 1 [y] rfl rfl (by omega) (news1 (by rw [← EY.out]; exact Blk.new w9 44 #[.string ⟨#[]⟩, .int .i64 a, .int .i64 b'])) (fun x _ => fac_len x) (fun x _ => one_fac x) (by omega) (by omega) (by unfold maxLen; omega) P10.out.e.size ?_
                     intro A11 c11 w11 own11 hg11 hat11
                     have P11 := Lib.hid (P10.out.pushR own11 hg11)
                     have B11 := B1.out.next P11.out.e
                     have d11 := B11.cell 0
                     have f11 := B11.frozen
                     have l11 := B11.lt)
                  | (at_builtin
                     refine wpList_app rfl _ _ _ rfl LB 2 1 8 elem_int intE L j d S.pl rfl P8.out.l ⟨w7.heap.size, 0, none⟩ 1 1 [(n : Int)] rfl rfl (by omega) (news1i (Blk.new w7 2 #[.int .i64 (n : Int)])) (fun _ _ => rfl) (by simp [intE, Value.oneCell']) (by omega) (by omega) (by unfold maxLen; omega) P8.out.hb.2 ?_
                     intro A9 c9 w9 own9 hg9 hat9
                     have P9 := Lib.hid (P8.out.pushL own9 hg9)
                     obtain ⟨gl, hLA, hgl0, hgl1, hcl9⟩ := own_int P9.out.l (show (S.pl ++ [(n : Int)]).length = j + 1 by rw [List.length_append, HSp.out]; rfl) (t : Int) t0 t1
                     subst hLA
                     rw [Int.toNat_natCast, HPv.out] at hcl9
                     have P10 := Lib.hid (P9.out.alloc (.cells #[.string ⟨#[]⟩, .int .i64 a, .int .i64 b'] 44))))
            · have hbig : 400 < (phgL s).length := by
                unfold phgL
                rw [chainL_len]
                have := HGr.out; omega
              have eT : toldF (phgL s) = [] := by unfold toldF; rw [if_pos hbig]
              have eC : toldC (phgL s) = 3 := by unfold toldC; rw [if_pos hbig]
              have ET := Lib.hid eT
              have EC := Lib.hid eC
              clear eT eC hbig
              rw [ET.out, EC.out]
              have B12 := B11.set_ 0 (.slice none 0 0)
              have x12 : (w11.setCell ⟨w.heap.size, 0, none⟩ (.slice none 0 0)).cell? ⟨w.heap.size, 0, none⟩ = some (.slice none 0 0) := by rw [B12.cell 0]; rfl
              have b12 := (hb1.trans (P11.out.e.mono (by omega))).setCell (p := ⟨w.heap.size, 0, none⟩) (Nat.le_refl _) (.slice none 0 0)
              exact bodyPost_ret (v := .tuple #[.agg #[.slice none 0 0], .int .i64 3]) (by simp [results, Try.results7, go_sem, x12]) rfl ⟨none, 0, rfl, World.ownsRow_nil _ _ _ _, b12⟩
            · go_roundw
              case rel => exact ⟨j + 1, n + 1, atS ps (j + 1), A11, c11, _, c9, ⟨S.rs ++ [y], numPut S.m p (n : Int), S.pl ++ [(n : Int)]⟩, rfl, rfl, by rw [← U3.out], by go_num, by omega, by omega, by omega, Lib.hid rfl, Lib.hid (by rw [List.length_append, HSn.out]; rfl), Lib.hid (by rw [List.length_append, HSp.out]; rfl), HIs, HGs, P11⟩
              case measure => simp [intOf]; omega
      · obtain rfl : j = np := by omega
        have HN2 := HNP.out
        have eS : S = phgS s := by have := HG.out; rw [List.drop_of_length_le (by omega)] at this; exact this
        subst eS
        have hT := phgL_ok Ho.out
        have hLL := phgL_len Ho.out
        have HW := Lib.hid hT.1
        have HLe := Lib.hid (show phgL s = chainL (phgS s).rs (phgS s).pl from rfl)
        clear hT HG HI HN2
        go_wp2_with fail
        refine (l06Chain_any w1 A n c L j d (phgS s).rs (phgS s).pl wr (by omega) (by omega) HSn.out HSp.out P1.out.q (P1.out.l.mono P1.out.hb.1) P1.out.e).mono ?_
        rintro e w6 ⟨A6, c6, rfl, own6, hb6⟩
        rw [← HLe.out] at own6
        simp only [← HLe.out]
        have O6 := Lib.hid own6
        have B6 := Lib.hid (B1.out.next hb6)
        clear own6 HLe P1
        obtain ⟨N, hN⟩ : ∃ N, (phgL s).length = N := ⟨_, rfl⟩
        have HNl := Lib.hid hN
        rw [hN] at O6 hLL
        simp only [hN]
        clear hN
        go_wp2_with fail
        refine (l06Told_any A6 N c6 (phgL s) w6 (by omega) (Rd.of_own (fun x _ => fac_len x) HNl.out O6.out) HW.out).mono ?_
        rintro e w7 ⟨A7, c7, rfl, own7, hb7⟩
        have b7 : Below w.heap.size w w7 := (hb1.trans (hb6.mono (by omega))).trans (hb7.mono (by have := hb6.size; omega))
        have B7 := Lib.hid (B6.out.next hb7)
        have O7 := Lib.hid (own7.mono (show w.heap.size ≤ w6.heap.size by have := hb6.size; omega))
        clear own7
        generalize toldF (phgL s) = T at *
        generalize toldC (phgL s) = TC at *
        have d5 := B7.out.cell 0
        have f5 := B7.out.frozen
        have l5 := B7.out.lt
        have B8 := B7.out.set_ 0 (.slice A7 T.length c7)
        have x6 : (w7.setCell ⟨w.heap.size, 0, none⟩ (.slice A7 T.length c7)).cell? ⟨w.heap.size, 0, none⟩ = some (.slice A7 T.length c7) := by rw [B8.cell 0]; rfl
        have b6 := b7.setCell (p := ⟨w.heap.size, 0, none⟩) (Nat.le_refl _) (.slice A7 T.length c7)
        have O8 := Lib.hid (own_kept' O7.out B7.out (by decide) (.slice A7 T.length c7) (i := 0))
        clear B8
        go_wp2_with fail
        exact bodyPost_ret (v := .tuple #[.agg #[.slice A7 T.length c7], .int .i64 TC]) (by simp [results, Try.results7, go_sem, x6]) rfl ⟨A7, c7, rfl, O8.out, b6⟩
end Go.Proofs.Ytikhjoianbndhaa
