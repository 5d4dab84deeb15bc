/-
  The statement FnRanks: for all bytes, the letter with some number stands where as many are before it, and no place has more before it than the letter occurs. No condition.
-/
import Derived.Test.YtecnkmndmnefdaaP7

namespace Go.Proofs.Ytecnkmndmnefdaa
open Go.ChangeShapes Go.WideShapes Go.ChangeAt Go.RowKit

theorem rk_lt1 {l : Nat} (h : l < 4) : letT (lt1 l) = true ∧ letN (lt1 l) = l := by
  match l, h with
  | 0, _ => exact ⟨rfl, rfl⟩
  | 1, _ => exact ⟨rfl, rfl⟩
  | 2, _ => exact ⟨rfl, rfl⟩
  | 3, _ => exact ⟨rfl, rfl⟩
theorem rk_at {l : Nat} (h : l < 4) (h0 : 0 < (lt1 l).size) : ((lt1 l)[0]'h0).toNat = 97 + l := by
  match l, h with
  | 0, _ => rfl
  | 1, _ => rfl
  | 2, _ => rfl
  | 3, _ => rfl
theorem rankV_word {rs : List Fac} (hg : (gOk rs).isSome = true) {l : Nat} (hl : l < 4) {m : Nat} (h1 : m ≤ (wdN rs).length) : rankV rs (lt1 l) (m : Int) = tup2 (cn l ((wdN rs).take m)) 0 := by
  obtain ⟨ls, hls, _, _⟩ := big_lens hg
  have hlast := last_word hls
  rw [rankV4 hls hg (rk_lt1 hl).1 (by unfold inB; simp; omega), (rk_lt1 hl).2, rkT_word hls hl, Int.toNat_natCast]
theorem cn_mono (l : Nat) (u : List Nat) {i j : Nat} (h : i ≤ j) : cn l (u.take i) ≤ cn l (u.take j) := by
  have e : u.take i = (u.take j).take i := by rw [List.take_take, Nat.min_eq_left h]
  have e2 : cn l (u.take j) = cn l ((u.take j).take i) + cn l ((u.take j).drop i) := by rw [← cn_app, List.take_append_drop]
  rw [e, e2]
  have := cn_nn l ((u.take j).drop i)
  omega
theorem cn_take1 (l : Nat) {u : List Nat} {j : Nat} (h : j < u.length) (he : u.getD j 0 = l) : cn l (u.take (j + 1)) = cn l (u.take j) + 1 := by
  have e : u[j]'h = l := by rw [← he, List.getD_eq_getElem?_getD, List.getElem?_eq_getElem h]; rfl
  rw [List.take_succ_eq_append_getElem h, cn_app, e, cn_cons, cn_nil, if_pos rfl]; rfl
theorem selV_word {rs : List Fac} (hg : (gOk rs).isSome = true) {l : Nat} (hl : l < 4) {i : Nat} (h1 : i ≤ (wdN rs).length) :
    (cn l ((wdN rs).take i) = cn l (wdN rs) ∧ selV rs (lt1 l) (cn l ((wdN rs).take i)) = tup2 0 6) ∨
    (cn l ((wdN rs).take i) < cn l (wdN rs) ∧ ∃ j : Nat, j < (wdN rs).length ∧ i ≤ j ∧ selV rs (lt1 l) (cn l ((wdN rs).take i)) = tup2 j 0 ∧ (wdN rs).getD j 0 = l ∧ cn l ((wdN rs).take j) = cn l ((wdN rs).take i)) := by
  obtain ⟨ls, hls, _, _⟩ := big_lens hg
  have hm := cn_mono l (wdN rs) h1
  rw [List.take_length] at hm
  have hn := cn_nn l ((wdN rs).take i)
  have ht : (topQ rs).at_ (letN (lt1 l)) = cn l (wdN rs) := by rw [(rk_lt1 hl).2, topQ_word (wf_of hls), cq_at _ hl]
  by_cases h : cn l (wdN rs) ≤ cn l ((wdN rs).take i)
  · exact .inl ⟨by omega, selV4 hg (rk_lt1 hl).1 hn (by rw [ht]; exact h)⟩
  · refine .inr ⟨by omega, ?_⟩
    obtain ⟨j, e1, e2, e3⟩ := sel_word hls hl hn (show _ < cn l (wdN rs) by omega)
    have hj : j < (wdN rs).length := (List.getElem?_eq_some_iff.1 e2).1
    have hjl : (wdN rs).getD j 0 = l := by rw [List.getD_eq_getElem?_getD, e2]; rfl
    refine ⟨j, hj, ?_, ?_, hjl, e3⟩
    · rcases Nat.lt_or_ge j i with h5 | h5
      · have := cn_mono l (wdN rs) (show j + 1 ≤ i by omega)
        rw [cn_take1 l hj hjl] at this; omega
      · exact h5
    · rw [selV5 hls hg (rk_lt1 hl).1 hn (by rw [ht]; omega), (rk_lt1 hl).2, e1]
set_option maxHeartbeats 16000000 in
set_option maxRecDepth 100000 in
theorem walkRk (A : Option Addr) (n c : Nat) (zs : List Int) (D : Option Addr) (m d : Nat) (ys : List Int) (w : World)
    (hn : n ≤ maxLen) (hx : Rd w w.heap.size A n 1 (fun z => [.int .u8 z]) zs) (ox : ∀ z ∈ zs, 0 ≤ z ∧ z < 256) (hm : m ≤ maxLen) (hy : Rd w w.heap.size D m 1 (fun z => [.int .u8 z]) ys) (oy : ∀ z ∈ ys, 0 ≤ z ∧ z < 256) :
    Calls Try.prog 3 #[.slice A n c, .slice D m d] w (Ret (.bool true) w) := by
  by_cases h1 : 4096 < n
  · have h1' := Lib.hid (decide_eq_true h1)
    go_enter Try.func3, Try.ntmps3
    go_wp2_with fail
    refine (f6big_any A n c w hn true h1'.out).mono ?_
    rintro e w1 ⟨rfl, hb1⟩
    go_wp2_with fail
    go_ret
    exact ⟨rfl, hb1⟩
  by_cases h2 : 4096 < m
  · have h1' := Lib.hid (decide_eq_false h1)
    have h2' := Lib.hid (decide_eq_true h2)
    go_enter Try.func3, Try.ntmps3
    go_wp2_with fail
    refine (f6big_any A n c w hn false h1'.out).mono ?_
    rintro e w1 ⟨rfl, hb1⟩
    go_wp2_with fail
    refine (f6big_any D m d w1 hm true h2'.out).mono ?_
    rintro e w2 ⟨rfl, hb2⟩
    go_wp2_with fail
    go_ret
    exact ⟨rfl, hb1.trans (hb2.mono hb1.size)⟩
  have h1' := Lib.hid (decide_eq_false h1)
  have h2' := Lib.hid (decide_eq_false h2)
  have hbs := Lib.hid (hx.bytes ox)
  have hds := Lib.hid (hy.bytes oy)
  clear hx hy ox oy
  have hn4 : n ≤ 4096 := by omega
  have hm4 : m ≤ 4096 := by omega
  go_enter Try.func3, Try.ntmps3
  go_wp2_with fail
  refine (f6big_any A n c w hn false h1'.out).mono ?_
  rintro e w1 ⟨rfl, hb1⟩
  go_wp2_with fail
  refine (f6big_any D m d w1 hm false h2'.out).mono ?_
  rintro e w2 ⟨rfl, hb2⟩
  have b2 := Lib.hid (hb1.trans (hb2.mono hb1.size))
  clear hb1 hb2 h1 h2
  go_wp2_with fail
  refine (p6Huge_any A n c _ w2 (by omega) (hbs.out.next b2.out)).mono ?_
  rintro e w3 ⟨A3, c3, rs, rfl, gi, hu, hb3⟩
  have b3 := Lib.hid (b2.out.trans (hb3.mono b2.out.size))
  have R3 := Lib.hid (Rd.of_own (fun x _ => fac_len x) rfl gi.own)
  have hgo := Lib.hid gi.ok
  have hpos := gi.pos
  have Z3 := Lib.hid (wf_sz gi.wf)
  have hn3 : rs.length ≤ 400 := by obtain ⟨_, _, h, _⟩ := big_lens gi.ok; exact h
  clear gi hb3 b2
  go_wp2_with fail
  refine namedC fun w4 H4 => ?_
  have c4 := Lib.hid (show Below w3.heap.size w3 w4 by rw [H4.out]; (repeat first | exact Below.refl _ _ | assumption | refine Below.drew ?_ | refine Below.alloc ?_ (by first | exact Nat.le_refl _ | (simp; done) | omega | (simp; omega)) _ | refine Below.setCell ?_ (by first | exact Nat.le_refl _ | (simp; done) | omega | (simp; omega)) _))
  have BG4 := Lib.hid (show Blk w4 w3.heap.size 26 #[.slice A3 rs.length c3] by rw [H4.out]; exact Blk.new _ _ _)
  clear H4
  refine (p6Letter_any D m d _ w4 hm4 (hds.out.next (b3.out.trans (c4.out.mono b3.out.size)))).mono ?_
  rintro e w5 ⟨l, hl4, rfl, hb5⟩
  have c45 := Lib.hid (c4.out.trans (hb5.mono c4.out.size))
  have b5 := Lib.hid (b3.out.trans (c45.out.mono b3.out.size))
  have BG6 := Lib.hid (BG4.out.next hb5)
  have RR := Lib.hid (fun W (h : Below w5.heap.size w5 W) => R3.out.next (c45.out.trans (h.mono c45.out.size)))
  have bw := Lib.hid (fun W (h : Below w5.heap.size w5 W) => b5.out.trans (h.mono b5.out.size))
  have PK := Lib.hid (fun W (h : Below w5.heap.size w5 W) (z k : Int) => p6Pick_any D m d _ z k W hm4 (hds.out.next (bw.out W h)))
  have ssz : (lt1 l).size ≤ maxLen := by show 1 ≤ maxLen; unfold maxLen; omega
  have FL := Lib.hid (fun W (h : Below w5.heap.size w5 W) => lengthOf_any A3 rs.length c3 rs W (RR.out W h) hgo.out)
  have RI := Lib.hid (fun W (h : Below w5.heap.size w5 W) (i : Nat) (hi : i ≤ (wdN rs).length) => show Calls Try.prog 10 #[.agg #[.slice A3 rs.length c3], .string (lt1 l), .int .i64 (i : Int)] W (Ret (.tuple #[.int .i64 (cn l ((wdN rs).take i)), .int .i64 0]) W) from by
    have h := implRank_any A3 rs.length c3 rs (lt1 l) (i : Int) W (by omega) (RR.out W h) Z3.out ssz (by omega)
    rw [rankV_word hgo.out hl4 hi] at h
    exact h)
  have RS := Lib.hid (fun W (h : Below w5.heap.size w5 W) (i : Nat) (hi : i ≤ (wdN rs).length) => show Calls Try.prog 13 #[.agg #[.slice A3 rs.length c3], .string (lt1 l), .int .i64 (i : Int)] W (Ret (.tuple #[.int .i64 (cn l ((wdN rs).take i)), .int .i64 0]) W) from by
    have h := specRank_any A3 rs.length c3 rs (lt1 l) (i : Int) W (by omega) (RR.out W h) Z3.out ssz (by omega)
    rw [rankV_word hgo.out hl4 hi] at h
    exact h)
  have cb := fun i => cn_le l ((wdN rs).take i)
  have cz := fun i => cn_nn l ((wdN rs).take i)
  have SI := Lib.hid (fun W (h : Below w5.heap.size w5 W) (i : Nat) => implSel_any A3 rs.length c3 rs (lt1 l) (cn l ((wdN rs).take i)) W (by omega) (RR.out W h) Z3.out ssz (by have := cb i; have := cz i; rw [List.length_take] at *; omega))
  have SS := Lib.hid (fun W (h : Below w5.heap.size w5 W) (i : Nat) => specSel_any A3 rs.length c3 rs (lt1 l) (cn l ((wdN rs).take i)) W (by omega) (RR.out W h) Z3.out ssz (by have := cb i; have := cz i; rw [List.length_take] at *; omega))
  have SW := Lib.hid (fun (i : Nat) (hi : i ≤ (wdN rs).length) => selV_word hgo.out hl4 hi)
  have LC := Lib.hid (fun W (h : Below w5.heap.size w5 W) => implLC_any A3 rs.length c3 rs W hpos (RR.out W h) hgo.out)
  have AT := Lib.hid (fun W (h : Below w5.heap.size w5 W) (j : Nat) (hj : j < (wdN rs).length) (he : (wdN rs).getD j 0 = l) => show Calls Try.prog 16 #[.agg #[.slice A3 rs.length c3], .int .i64 (j : Int)] W (Ret (.tuple #[.string (lt1 l), .int .i64 0]) W) from by
    have h := implAt_any A3 rs.length c3 rs j W (RR.out W h) hgo.out hj
    rw [he] at h
    exact h)
  have hl0 : 0 < (lt1 l).size := by show 0 < 1; omega
  have hlv := rk_at hl4 hl0
  have hl1 : (lt1 l).size = 1 := rfl
  have hct := ct4_at (wdN rs) hl4
  have hcl := ct4_len (wdN rs)
  have hall : cn l ((wdN rs).take (wdN rs).length) = cn l (wdN rs) := by rw [List.take_length]
  have c6 := Lib.hid (Below.refl w5.heap.size w5)
  clear hb5 c4 BG4 hbs hds hgo Z3 R3 RR c45 b5 b3 ssz cb cz
  generalize ct4 (wdN rs) = xs at *
  generalize hue : wdN rs = u at *
  generalize hN : rs.length = N3 at *
  generalize lt1 l = s at *
  generalize hw6 : w5 = w6 at *
  have g0 : w6.cell? ⟨w3.heap.size, 0, none⟩ = some (.slice A3 N3 c3) := BG6.out.cell 0
  have gl := BG6.out.lt
  go_wp2_with fail
  refine (FL.out w6 c6.out).mono ?_
  rintro e w7 ⟨rfl, hb⟩
  have c7 := Lib.hid (c6.out.trans (hb.mono c6.out.size))
  have BG7 := Lib.hid (BG6.out.next hb)
  clear g0 gl hb c6 BG6
  have g0 : w7.cell? ⟨w3.heap.size, 0, none⟩ = some (.slice A3 N3 c3) := BG7.out.cell 0
  have gl := BG7.out.lt
  go_wp2_with fail
  refine (RI.out w7 c7.out u.length (Nat.le_refl _)).mono ?_
  rintro e w8 ⟨rfl, hb⟩
  have c8 := Lib.hid (c7.out.trans (hb.mono c7.out.size))
  have BG8 := Lib.hid (BG7.out.next hb)
  clear g0 gl hb c7 BG7
  rw [hall] at *
  have g0 : w8.cell? ⟨w3.heap.size, 0, none⟩ = some (.slice A3 N3 c3) := BG8.out.cell 0
  have gl := BG8.out.lt
  go_wp2_with fail
  refine (LC.out w8 c8.out).mono ?_
  rintro e w9 ⟨cb, rfl, hcb, hB, hb⟩
  have HX9 := Lib.hid hB
  clear hB
  have c9 := Lib.hid (c8.out.trans (hb.mono c8.out.size))
  have BG9 := Lib.hid (BG8.out.next hb)
  clear g0 gl hb c8 BG8
  have vc : w9.cell? ⟨cb, l, none⟩ = some (.int .i64 (cn l u)) := by rw [HX9.out.cell l, intA_at _ (by rw [hcl]; exact hl4), hct]
  have lb := HX9.out.lt
  have ul : IntKind.u8.wrap ((((s)[0]'hl0).toNat : Int) - 97) = (l : Int) := by rw [hlv, IntKind.wrap_u8]; omega
  have l0 : (0 : Int) ≤ (l : Int) := by omega
  have l4 : (l : Int) < 4 := by omega
  have un : IntKind.i64.wrap ((u.length : Int) + 1) = (u.length : Int) + 1 := IntWalk.i64_in _ (by omega)
  have g0 : w9.cell? ⟨w3.heap.size, 0, none⟩ = some (.slice A3 N3 c3) := BG9.out.cell 0
  have gl := BG9.out.lt
  go_wp2_with fail
  refine (PK.out w9 c9.out ((u.length : Int) + 1) ((u.length : Int) + 1) (by omega) (by omega)).mono ?_
  rintro e w10 ⟨iz, rfl, iz0, iz1, hb⟩
  have c10 := Lib.hid (c9.out.trans (hb.mono c9.out.size))
  have BG10 := Lib.hid (BG9.out.next hb)
  clear g0 gl hb c9 BG9 vc lb ul l0 l4 un
  obtain ⟨i, rfl⟩ := Int.eq_ofNat_of_zero_le iz0
  have hiu : i ≤ u.length := by omega
  clear iz0 iz1
  have RI1 := Lib.hid (fun W h => RI.out W h i hiu)
  have RS1 := Lib.hid (fun W h => RS.out W h i hiu)
  have SI1 := Lib.hid (fun W h => SI.out W h i)
  have SS1 := Lib.hid (fun W h => SS.out W h i)
  have SW1 := SW.out i hiu
  clear SI SS SW RS HX9 LC PK FL
  generalize cn l (u.take i) = due at *
  generalize selV rs s due = sv at *
  have g0 : w10.cell? ⟨w3.heap.size, 0, none⟩ = some (.slice A3 N3 c3) := BG10.out.cell 0
  have gl := BG10.out.lt
  go_wp2_with fail
  refine (RI1.out w10 c10.out).mono ?_
  rintro e w11 ⟨rfl, hb⟩
  have c11 := Lib.hid (c10.out.trans (hb.mono c10.out.size))
  have BG11 := Lib.hid (BG10.out.next hb)
  clear g0 gl hb c10 BG10
  have g0 : w11.cell? ⟨w3.heap.size, 0, none⟩ = some (.slice A3 N3 c3) := BG11.out.cell 0
  have gl := BG11.out.lt
  go_wp2_with fail
  refine (RS1.out w11 c11.out).mono ?_
  rintro e w12 ⟨rfl, hb⟩
  have c12 := Lib.hid (c11.out.trans (hb.mono c11.out.size))
  have BG12 := Lib.hid (BG11.out.next hb)
  clear g0 gl hb c11 BG11
  rcases SW1 with SW1 | SW1
  · obtain ⟨e1, e2⟩ := SW1
    subst e2
    unfold tup2 at SI1 SS1
    subst e1
    generalize cn l u = due at *
    have g0 : w12.cell? ⟨w3.heap.size, 0, none⟩ = some (.slice A3 N3 c3) := BG12.out.cell 0
    have gl := BG12.out.lt
    go_wp2_with fail
    refine (SI1.out w12 c12.out).mono ?_
    rintro e w13 ⟨rfl, hb⟩
    have c13 := Lib.hid (c12.out.trans (hb.mono c12.out.size))
    have BG13 := Lib.hid (BG12.out.next hb)
    clear g0 gl hb c12 BG12
    have g0 : w13.cell? ⟨w3.heap.size, 0, none⟩ = some (.slice A3 N3 c3) := BG13.out.cell 0
    have gl := BG13.out.lt
    go_wp2_with fail
    refine (SS1.out w13 c13.out).mono ?_
    rintro e w14 ⟨rfl, hb⟩
    have c14 := Lib.hid (c13.out.trans (hb.mono c13.out.size))
    have BG14 := Lib.hid (BG13.out.next hb)
    clear g0 gl hb c13 BG13
    have g0 : w14.cell? ⟨w3.heap.size, 0, none⟩ = some (.slice A3 N3 c3) := BG14.out.cell 0
    have gl := BG14.out.lt
    go_wp2_with fail
    go_ret
    exact ⟨rfl, bw.out _ c14.out⟩
  · obtain ⟨e1, j, hj, hij, e2, e3, e4⟩ := SW1
    subst e2
    unfold tup2 at SI1 SS1
    have AT1 := Lib.hid (fun W h => AT.out W h j hj e3)
    have RI2 := Lib.hid (fun W h => RI.out W h j (by omega))
    rw [e4] at RI2
    clear RI AT e3 e4
    have d1 : ¬ (j : Int) < (i : Int) := by omega
    have d2 : (i : Int) ≤ (j : Int) := by omega
    have g0 : w12.cell? ⟨w3.heap.size, 0, none⟩ = some (.slice A3 N3 c3) := BG12.out.cell 0
    have gl := BG12.out.lt
    go_wp2_with fail
    refine (SI1.out w12 c12.out).mono ?_
    rintro e w13 ⟨rfl, hb⟩
    have c13 := Lib.hid (c12.out.trans (hb.mono c12.out.size))
    have BG13 := Lib.hid (BG12.out.next hb)
    clear g0 gl hb c12 BG12
    have g0 : w13.cell? ⟨w3.heap.size, 0, none⟩ = some (.slice A3 N3 c3) := BG13.out.cell 0
    have gl := BG13.out.lt
    go_wp2_with fail
    refine (SS1.out w13 c13.out).mono ?_
    rintro e w14 ⟨rfl, hb⟩
    have c14 := Lib.hid (c13.out.trans (hb.mono c13.out.size))
    have BG14 := Lib.hid (BG13.out.next hb)
    clear g0 gl hb c13 BG13
    have g0 : w14.cell? ⟨w3.heap.size, 0, none⟩ = some (.slice A3 N3 c3) := BG14.out.cell 0
    have gl := BG14.out.lt
    go_wp2_with fail
    refine (AT1.out w14 c14.out).mono ?_
    rintro e w15 ⟨rfl, hb⟩
    have c15 := Lib.hid (c14.out.trans (hb.mono c14.out.size))
    have BG15 := Lib.hid (BG14.out.next hb)
    clear g0 gl hb c14 BG14
    have g0 : w15.cell? ⟨w3.heap.size, 0, none⟩ = some (.slice A3 N3 c3) := BG15.out.cell 0
    have gl := BG15.out.lt
    go_wp2_with fail
    refine (RI2.out w15 c15.out).mono ?_
    rintro e w16 ⟨rfl, hb⟩
    have c16 := Lib.hid (c15.out.trans (hb.mono c15.out.size))
    have BG16 := Lib.hid (BG15.out.next hb)
    clear g0 gl hb c15 BG15
    have g0 : w16.cell? ⟨w3.heap.size, 0, none⟩ = some (.slice A3 N3 c3) := BG16.out.cell 0
    have gl := BG16.out.lt
    go_wp2_with fail
    go_ret
    exact ⟨rfl, bw.out _ c16.out⟩
set_option maxRecDepth 100000 in
theorem fnRanks_contract (H : Type) (enc : TypeId × Value → H) (W : World) (base : Nat) (args : Array Value) (ds gs : List (DataW H)) (before : List MemPlace)
    (hval : ∀ (j : Nat) t v, Try.f3.params[j]? = some t → args[j]? = some v → Value.okWide Try.prog W .any base t v)
    (hW : DataW.Whole enc Try.prog Try.f3.params.toList Rows.fnRanksSpec.vars false W args.toList ds gs before) :
    Calls Try.prog 3 args W fun e W' => ∃ v, e = .returned v ∧ Rows.fnRanksSpec.post enc Try.prog Try.f3 false true false false W args v W' := by
  have hW' := hW
  obtain ⟨p, q, hA0, hV, rfl, hfz, hnd⟩ := hW
  have hA : DataW.TrodAll enc Try.prog W 0 (fun _ => true) true Try.f3.params.toList args.toList ds p := hA0
  rw [Try.params3] at hA hval
  obtain ⟨v0, vs0, d0, ds0, p0, q0, hargs, rfl, rfl, h0, r0⟩ := trodAll_cons hA
  obtain ⟨v1, vs1, d1, ds1, p1, q1, rfl, rfl, rfl, h1, r1⟩ := trodAll_cons r0
  obtain ⟨rfl, rfl, rfl⟩ := trodAll_nil r1
  obtain rfl : args = #[v0, v1] := by cases args; simp_all
  obtain ⟨rfl, rfl⟩ := trodVars_none hV
  obtain ⟨A0, n0, c0, zs0, rfl, hn0, rd0, ok0⟩ := open_bytes Try.underlying22 Try.underlying5 (by kernel_rfl) (hval 0 22 v0 rfl rfl) h0
  obtain ⟨A1, n1, c1, zs1, rfl, hn1, rd1, ok1⟩ := open_bytes Try.underlying22 Try.underlying5 (by kernel_rfl) (hval 1 22 v1 rfl rfl) h1
  clear hA0
  refine (walkRk A0 n0 c0 zs0 A1 n1 c1 zs1 W hn0 rd0 ok0 hn1 rd1 ok1).mono fun e W' ⟨he, hb⟩ => ?_
  subst he
  exact ⟨_, rfl, law_post laidOut hW' rfl 4 Try.underlying4 (by kernel_rfl) (by rw [Try.params3]; intro t ht; simp at ht; first | (subst ht; exact ⟨by kernel_rfl, of_decide_eq_true (by kernel_rfl)⟩) | (rcases ht with rfl | rfl <;> exact ⟨by kernel_rfl, of_decide_eq_true (by kernel_rfl)⟩) | (rcases ht with rfl | rfl | rfl <;> exact ⟨by kernel_rfl, of_decide_eq_true (by kernel_rfl)⟩) | (rcases ht with rfl | rfl | rfl | rfl <;> exact ⟨by kernel_rfl, of_decide_eq_true (by kernel_rfl)⟩)) rfl hb⟩

set_option maxRecDepth 100000 in
theorem fnRanks_lifted (os : Os) (started : os.Started) (H : Type) (enc : TypeId × Value → H) :
    ReturnsInHanded {} Try.checked os 3 .any (Rows.fnRanksSpec.pre6 enc Try.prog Try.f3 Rows.fnRanksRow.domain false) (Rows.fnRanksSpec.post enc Try.prog Try.f3 false true false false) := by
  refine returnsInHanded_of_change (C := Try.checked) own started (by kernel_rfl) Try.func3
    (ChangeSpec.witness6 (enc := enc) (C := Try.checked) false ⟨#[], #[.slice none 0 0, .slice none 0 0], []⟩ 8 (by kernel_rfl) (by kernel_rfl) (by kernel_rfl) (by kernel_rfl)) ?_
  intro W base args ds gs before hval0 hW hcnd _
  exact fnRanks_contract H enc W base args ds gs before hval0 hW

theorem fnRanks_holds : Rows.FnRanksSaid :=
  OpenClaim.holds_of_wide 3 Try.f3 rfl rfl rfl rfl rfl rfl rfl ⟨rfl, rfl, rfl, rfl, rfl⟩ rfl rfl rfl rfl rfl (by as_aux_lemma => kernel_rfl) Try.func3
    (joined_mk (by as_aux_lemma => kernel_rfl) laidOut mapsRowed' (by as_aux_lemma => kernel_rfl) (by as_aux_lemma => kernel_rfl) (by as_aux_lemma => kernel_rfl) (by as_aux_lemma => kernel_rfl) (by as_aux_lemma => kernel_rfl) (by as_aux_lemma => kernel_rfl) plainKeys' rfl heard' mayEnter' lifts' make' (by as_aux_lemma => kernel_rfl))
    (of_decide_eq_true (by kernel_rfl)) (by unfold Func.isWrapper; first | (rw [if_pos (by decide +kernel)]; kernel_rfl) | (rw [if_neg (by decide +kernel)]; exact ⟨rfl, rfl⟩))
    (fun os started H enc _ => fnRanks_lifted os started H enc)

end Go.Proofs.Ytecnkmndmnefdaa
