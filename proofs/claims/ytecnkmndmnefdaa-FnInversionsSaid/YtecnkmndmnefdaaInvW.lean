/-
  The statement FnInversions: for all bytes, the inversions of the word that is drawn and of its turned word are all pairs of different letters, the places of a letter have the sum that is due, and a short word's are counted as in the unpacked word. No condition.
-/
import Derived.Test.YtecnkmndmnefdaaP6

namespace Go.Proofs.Ytecnkmndmnefdaa
open Go.ChangeShapes Go.WideShapes Go.ChangeAt Go.RowKit

theorem invV_word {rs : List Fac} (hg : (gOk rs).isSome = true) {m : Int} (h1 : 1 ≤ m) (h2 : m ≤ 1000000000) : invV rs m = tup2 (ivN (wdN rs) % m) 0 := by
  obtain ⟨ls, hls, _, _⟩ := big_lens hg
  rw [invV4 hg (by unfold inB; simp; omega), invTop_word (wf_of hls) h1]
theorem letT_lt1 {l : Nat} (h : l < 4) : letT (lt1 l) = true ∧ letN (lt1 l) = l := by
  match l, h with
  | 0, _ => exact ⟨rfl, rfl⟩
  | 1, _ => exact ⟨rfl, rfl⟩
  | 2, _ => exact ⟨rfl, rfl⟩
  | 3, _ => exact ⟨rfl, rfl⟩
theorem placeV_word {rs : List Fac} (hg : (gOk rs).isSome = true) {l : Nat} (hl : l < 4) {m : Int} (h1 : 1 ≤ m) (h2 : m ≤ 1000000000) : placeV rs (lt1 l) m = tup2 (plN l (wdN rs) % m) 0 := by
  obtain ⟨ls, hls, _, _⟩ := big_lens hg
  unfold placeV
  rw [if_neg (by rw [hg]; decide), if_neg (by rw [(letT_lt1 hl).1]; decide), if_neg (by unfold inB; simp; omega), hls, (letT_lt1 hl).2]
  show tup2 (topI plF (plG ls (cnts rs) l m) rs) 0 = _
  rw [plTop_word hls hl h1]
theorem crT_stop (p q : Q4) (k : Nat) : ∀ d : Nat, crT p q k (k + d) = crT p q k k
  | 0 => rfl
  | d + 1 => by rw [show k + (d + 1) = (k + d) + 1 by omega, crT, if_neg (by omega), crT_stop p q k d]; omega
theorem plN_take (l : Nat) {v : List Nat} {i : Nat} (hi : i < v.length) : plN l (v.take (i + 1)) = plN l (v.take i) + if v.getD i 0 = l then (i : Int) else 0 := by
  rw [List.take_succ_eq_append_getElem hi, plN_snoc, List.length_take, Nat.min_eq_left (by omega), List.getD_eq_getElem?_getD, List.getElem?_eq_getElem hi]; rfl
theorem ivN_take {v : List Nat} {i : Nat} (hi : i < v.length) : ivN (v.take (i + 1)) = ivN (v.take i) + gtC (v.getD i 0) (v.take i) := by
  rw [List.take_succ_eq_append_getElem hi, ivN_snoc, List.getD_eq_getElem?_getD, List.getElem?_eq_getElem hi]; rfl
theorem gtC_take (x : Nat) {v : List Nat} {i : Nat} (hi : i < v.length) : gtC x (v.take (i + 1)) = gtC x (v.take i) + if x < v.getD i 0 then 1 else 0 := by
  rw [List.take_succ_eq_append_getElem hi, gtC_app, gtC_cons, List.getD_eq_getElem?_getD, List.getElem?_eq_getElem hi]
  show _ + (_ + (0 : Int)) = _
  rw [Int.add_zero]; rfl
theorem gtC_nn (x : Nat) (v : List Nat) : 0 ≤ gtC x v := by unfold gtC; omega
/-- pairs of letters under way -/
def prV (u : List Nat) (k l : Nat) : Int := crS (cq u) (cq u) k + crT (cq u) (cq u) k l
theorem prV_0 (u : List Nat) : prV u 0 0 = 0 := rfl
theorem prV_step (u : List Nat) {k l : Nat} (hk : k < 4) (h : l < k) (m : Int) : (prV u k l % m + cn k u % m * (cn l u % m)) % m = prV u k (l + 1) % m := by
  unfold prV
  have e : crT (cq u) (cq u) k (l + 1) = crT (cq u) (cq u) k l + cn k u * cn l u := by
    rw [crT, if_pos h, cq_at _ hk, cq_at _ (by omega)]
  rw [e, ← Int.add_assoc]
  exact md_add (Int.emod_emod _ _) (md_mul (Int.emod_emod _ _) (Int.emod_emod _ _))
theorem prV_next (u : List Nat) {k : Nat} (hk : k < 4) : prV u k k = prV u (k + 1) 0 := by
  unfold prV
  have e : crS (cq u) (cq u) (k + 1) = crS (cq u) (cq u) k + crT (cq u) (cq u) k 4 := rfl
  have e2 : crT (cq u) (cq u) (k + 1) 0 = 0 := rfl
  rw [e, e2, show (4 : Nat) = k + (4 - k) by omega, crT_stop]; omega
theorem prV_all {u : List Nat} (h : ∀ x ∈ u, x < 4) (m : Int) : (ivN u % m + ivN u.reverse % m) % m = prV u 4 0 % m := by
  rw [show prV u 4 0 = ivN u + ivN u.reverse by rw [iv_turn h]; unfold prV; have e2 : crT (cq u) (cq u) 4 0 = 0 := rfl; rw [e2]; omega]
  exact md_add (Int.emod_emod _ _) (Int.emod_emod _ _)
theorem pl_all (l : Nat) (u : List Nat) (m : Int) : (plN l u % m + plN l u.reverse % m) % m = ((u.length : Int) - 1) % m * (cn l u % m) % m := by
  rw [← Int.add_emod, pl_turn, Int.mul_emod]
theorem turn_ok {rs : List Fac} (h : (gOk rs).isSome = true) : (gOk (turnL rs)).isSome = true := by
  obtain ⟨ls, hls, h1, h2⟩ := big_lens h
  have hwf := wf_of hls
  refine ok_of (turn_wf hwf) (by rw [turn_len]; exact h1) (fun k hk => ?_)
  rw [turn_len] at hk
  rw [turn_wds hwf k hk, List.length_reverse]
  have a := lens_word hls hk
  have b := (lens_bound hls hk).2
  omega
theorem lt1_at {l : Nat} (h : l < 4) (h0 : 0 < (lt1 l).size) : ((lt1 l)[0]'h0).toNat = 97 + l := by
  match l, h with
  | 0, _ => rfl
  | 1, _ => rfl
  | 2, _ => rfl
  | 3, _ => rfl
theorem tx_slice (u : List Nat) {i : Nat} (hi : i < u.length) : (tx u).extract i (i + 1) = lt1 (u.getD i 0) := by
  have e : ((tx u).extract i (i + 1)).data = (lt1 (u.getD i 0)).data := by
    apply Array.ext'
    rw [ByteArray.data_extract, Array.toList_extract, tx_toList]
    show ((txB u).drop i).take (i + 1 - i) = [UInt8.ofNat (97 + u.getD i 0)]
    rw [show i + 1 - i = 1 by omega, List.drop_eq_getElem_cons (by rw [txB_len]; exact hi)]
    simp [txB, List.getD_eq_getElem?_getD, List.getElem?_eq_getElem hi]
  exact ByteArray.ext e
theorem lt1_inj {a b : Nat} (ha : a < 4) (hb : b < 4) : lt1 a = lt1 b ↔ a = b := by
  match a, ha, b, hb with
  | 0, _, 0, _ => decide
  | 0, _, 1, _ => decide
  | 0, _, 2, _ => decide
  | 0, _, 3, _ => decide
  | 1, _, 0, _ => decide
  | 1, _, 1, _ => decide
  | 1, _, 2, _ => decide
  | 1, _, 3, _ => decide
  | 2, _, 0, _ => decide
  | 2, _, 1, _ => decide
  | 2, _, 2, _ => decide
  | 2, _, 3, _ => decide
  | 3, _, 0, _ => decide
  | 3, _, 1, _ => decide
  | 3, _, 2, _ => decide
  | 3, _, 3, _ => decide
set_option maxHeartbeats 16000000 in
set_option maxRecDepth 100000 in
theorem walkInv (A : Option Addr) (n c : Nat) (zs : List Int) (D : Option Addr) (m d : Nat) (ys : List Int) (w : World)
    (hn : n ≤ maxLen) (hx : Rd w w.heap.size A n 1 (fun z => [.int .u8 z]) zs) (ox : ∀ z ∈ zs, 0 ≤ z ∧ z < 256) (hm : m ≤ maxLen) (hy : Rd w w.heap.size D m 1 (fun z => [.int .u8 z]) ys) (oy : ∀ z ∈ ys, 0 ≤ z ∧ z < 256) :
    Calls Try.prog 4 #[.slice A n c, .slice D m d] w (Ret (.bool true) w) := by
  by_cases h1 : 4096 < n
  · have h1' := Lib.hid (decide_eq_true h1)
    go_enter Try.func4, Try.ntmps4
    go_wp2_with fail
    refine (f6big_any A n c w hn true h1'.out).mono ?_
    rintro e w1 ⟨rfl, hb1⟩
    go_wp2_with fail
    go_ret
    exact ⟨rfl, hb1⟩
  by_cases h2 : 4096 < m
  · have h1' := Lib.hid (decide_eq_false h1)
    have h2' := Lib.hid (decide_eq_true h2)
    go_enter Try.func4, Try.ntmps4
    go_wp2_with fail
    refine (f6big_any A n c w hn false h1'.out).mono ?_
    rintro e w1 ⟨rfl, hb1⟩
    go_wp2_with fail
    refine (f6big_any D m d w1 hm true h2'.out).mono ?_
    rintro e w2 ⟨rfl, hb2⟩
    go_wp2_with fail
    go_ret
    exact ⟨rfl, hb1.trans (hb2.mono hb1.size)⟩
  have h1' := Lib.hid (decide_eq_false h1)
  have h2' := Lib.hid (decide_eq_false h2)
  have hbs := Lib.hid (hx.bytes ox)
  have hds := Lib.hid (hy.bytes oy)
  clear hx hy
  go_enter Try.func4, Try.ntmps4
  go_wp2_with fail
  refine (f6big_any A n c w hn false h1'.out).mono ?_
  rintro e w1 ⟨rfl, hb1⟩
  go_wp2_with fail
  refine (f6big_any D m d w1 hm false h2'.out).mono ?_
  rintro e w2 ⟨rfl, hb2⟩
  have b2 := Lib.hid (hb1.trans (hb2.mono hb1.size))
  clear hb1 hb2
  go_wp2_with fail
  refine (p6Huge_any A n c _ w2 (by omega) (hbs.out.next b2.out)).mono ?_
  rintro e w3 ⟨A3, c3, rs, rfl, gi, hu, hb3⟩
  have Hok := Lib.hid gi.ok
  have Hwf := Lib.hid gi.wf
  have hpos := gi.pos
  have b3 := Lib.hid (b2.out.trans (hb3.mono b2.out.size))
  have HR3 := Lib.hid (Rd.of_own (fun x _ => fac_len x) rfl gi.own)
  have Hsz := Lib.hid (wf_sz gi.wf)
  have hn4 : rs.length ≤ 400 := by obtain ⟨_, _, h, _⟩ := big_lens gi.ok; exact h
  have DS := Lib.hid (fun W (hb : Below w3.heap.size w3 W) => hds.out.next (b3.out.trans (hb.mono b3.out.size)))
  clear hb3 gi hds hbs b2 h1 ox oy
  obtain ⟨N, hN⟩ : ∃ N, rs.length = N := ⟨_, rfl⟩
  have HN := Lib.hid hN
  rw [hN] at HR3 hpos hn4 ⊢
  clear hN
  go_wp2_with fail
  refine namedC fun w4 H4 => ?_
  have c4 := Lib.hid (show Below w3.heap.size w3 w4 by rw [H4.out]; (repeat first | exact Below.refl _ _ | assumption | refine Below.drew ?_ | refine Below.alloc ?_ (by first | exact Nat.le_refl _ | (simp; done) | omega | (simp; omega)) _ | refine Below.setCell ?_ (by first | exact Nat.le_refl _ | (simp; done) | omega | (simp; omega)) _))
  have BG4 := Lib.hid (show Blk w4 w3.heap.size 26 #[.slice A3 N c3] by rw [H4.out]; exact Blk.new _ _ _)
  clear H4
  refine (p6Pick_any D m d _ 1000 1000 w4 (by omega) (DS.out w4 c4.out) (by omega) (by omega)).mono ?_
  rintro e w5 ⟨v, rfl, v0, v1, hb5⟩
  have c5 := Lib.hid (c4.out.trans (hb5.mono c4.out.size))
  have BG5 := Lib.hid (BG4.out.next hb5)
  clear c4 BG4 hb5
  have uv : IntKind.i64.wrap (2 + v) = 2 + v := IntWalk.i64_in _ (by omega)
  go_wp2_with fail
  clear uv
  obtain ⟨M, hM⟩ : ∃ M, 2 + v = M := ⟨_, rfl⟩
  rw [hM]
  have M0 : 2 ≤ M := by omega
  have M1 : M ≤ 1001 := by omega
  clear hM v0 v1
  refine (p6Letter_any D m d _ w5 (by omega) (DS.out w5 c5.out)).mono ?_
  rintro e w6 ⟨l, hl4, rfl, hb6⟩
  have c6 := Lib.hid (c5.out.trans (hb6.mono c5.out.size))
  have BG6 := Lib.hid (BG5.out.next hb6)
  clear c5 BG5 hb6
  have g0 := BG6.out.cell 0
  have gl := BG6.out.lt
  go_wp2_with fail
  refine (turnG_any A3 N c3 rs w6 hpos hn4 (HR3.out.next c6.out) Hwf.out Hok.out).mono ?_
  rintro e w7 ⟨A7, c7, rfl, own7, hb7⟩
  rw [turn_len, HN.out] at own7 ⊢
  have c7' := Lib.hid (c6.out.trans (hb7.mono c6.out.size))
  have BG7 := Lib.hid (BG6.out.next hb7)
  have HT7 := Lib.hid (Rd.of_own (fun x _ => fac_len x) (by rw [turn_len]; exact HN.out) own7)
  have HTk := Lib.hid (turn_ok Hok.out)
  have HTw := Lib.hid (turn_wf Hwf.out)
  have HTs := Lib.hid (wf_sz (turn_wf Hwf.out))
  have HTu := Lib.hid (turn_word Hwf.out)
  clear c6 BG6 hb7 own7 g0 gl
  have IV := Lib.hid (fun W (hb : Below w3.heap.size w3 W) => implInv_any A3 N c3 rs M W (by omega) (HR3.out.next hb) Hsz.out (by omega))
  have IT := Lib.hid (fun W (hb : Below w7.heap.size w7 W) => implInv_any A7 N c7 (turnL rs) M W (by omega) (HT7.out.next hb) HTs.out (by omega))
  have PV := Lib.hid (fun W (hb : Below w3.heap.size w3 W) => implPlace_any A3 N c3 rs (lt1 l) M W (by omega) (HR3.out.next hb) Hsz.out (by show 1 ≤ maxLen; unfold maxLen; omega) (by omega))
  have PT := Lib.hid (fun W (hb : Below w7.heap.size w7 W) => implPlace_any A7 N c7 (turnL rs) (lt1 l) M W (by omega) (HT7.out.next hb) HTs.out (by show 1 ≤ maxLen; unfold maxLen; omega) (by omega))
  have LC := Lib.hid (fun W (hb : Below w3.heap.size w3 W) => specLC_any A3 N c3 rs W hpos (HR3.out.next hb) Hok.out)
  have FL := Lib.hid (fun W (hb : Below w3.heap.size w3 W) => f6length_any A3 N c3 rs W (HR3.out.next hb) Hok.out)
  rw [invV_word Hok.out (by omega) (by omega)] at IV
  rw [invV_word HTk.out (by omega) (by omega), HTu.out] at IT
  rw [placeV_word Hok.out hl4 (by omega) (by omega)] at PV
  rw [placeV_word HTk.out hl4 (by omega) (by omega), HTu.out] at PT
  have HU4 := Lib.hid (wdN_let Hwf.out)
  generalize wdN rs = u at *
  unfold tup2 at IV IT PV PT
  have Hpr := Lib.hid (prV_all HU4.out M)
  have Hpl := Lib.hid (pl_all l u M)
  have a0 := Int.emod_nonneg (ivN u) (show M ≠ 0 by omega)
  have a1 := Int.emod_lt_of_pos (ivN u) (show 0 < M by omega)
  have t0 := Int.emod_nonneg (ivN u.reverse) (show M ≠ 0 by omega)
  have t1 := Int.emod_lt_of_pos (ivN u.reverse) (show 0 < M by omega)
  have p0 := Int.emod_nonneg (plN l u) (show M ≠ 0 by omega)
  have p1 := Int.emod_lt_of_pos (plN l u) (show 0 < M by omega)
  have q0 := Int.emod_nonneg (plN l u.reverse) (show M ≠ 0 by omega)
  have q1 := Int.emod_lt_of_pos (plN l u.reverse) (show 0 < M by omega)
  have hpn : (u.length : Int) = 0 → plN l u % M = 0 ∧ plN l u.reverse % M = 0 := fun h => by
    have : u = [] := List.eq_nil_of_length_eq_zero (by omega)
    subst this
    exact ⟨by simp [plN], by simp [plN]⟩
  have Hpn := Lib.hid hpn
  clear hpn HTk HTw HTs HTu HT7 Hok Hwf Hsz HR3
  generalize hAI : ivN u % M = ai at *
  generalize hTI : ivN u.reverse % M = ti at *
  generalize hAP : plN l u % M = ap at *
  generalize hTP : plN l u.reverse % M = tp at *
  clear hAI hTI hAP hTP
  have g0 := BG7.out.cell 0
  have gl := BG7.out.lt
  go_wp2_with fail
  clear g0 gl
  refine namedC fun w8 H8 => ?_
  have d8 := Lib.hid (show Below w7.heap.size w7 w8 by rw [H8.out]; (repeat first | exact Below.refl _ _ | assumption | refine Below.drew ?_ | refine Below.alloc ?_ (by first | exact Nat.le_refl _ | (simp; done) | omega | (simp; omega)) _ | refine Below.setCell ?_ (by first | exact Nat.le_refl _ | (simp; done) | omega | (simp; omega)) _))
  have BG8 := Lib.hid (show Blk w8 w3.heap.size 26 #[.slice A3 N c3] by rw [H8.out]; exact BG7.out.alloc _)
  have BT8 := Lib.hid (show Blk w8 w7.heap.size 26 #[.slice A7 N c7] by rw [H8.out]; exact Blk.new _ _ _)
  have e3 := Lib.hid (fun W (h : Below w7.heap.size w7 W) => c7'.out.trans (h.mono c7'.out.size))
  clear H8 BG7
  refine (IV.out w8 (e3.out _ d8.out)).mono ?_
  rintro e w9 ⟨rfl, hb9⟩
  have d9 := Lib.hid (d8.out.trans (hb9.mono d8.out.size))
  have BG9 := Lib.hid (BG8.out.next hb9)
  have BT9 := Lib.hid (BT8.out.next hb9)
  have g0 := BT9.out.cell 0
  have gl := BT9.out.lt
  clear d8 BG8 BT8 hb9 IV
  go_wp2_with fail
  refine (IT.out w9 d9.out).mono ?_
  rintro e w10 ⟨rfl, hb10⟩
  have d10 := Lib.hid (d9.out.trans (hb10.mono d9.out.size))
  have BG10 := Lib.hid (BG9.out.next hb10)
  have BT10 := Lib.hid (BT9.out.next hb10)
  clear d9 BG9 BT9 hb10 IT g0 gl
  have g0 := BG10.out.cell 0
  have gl := BG10.out.lt
  go_wp2_with fail
  refine (LC.out w10 (e3.out _ d10.out)).mono ?_
  rintro e w11 ⟨b11, rfl, hb11l, K11, hb11⟩
  have d11 := Lib.hid (d10.out.trans (hb11.mono d10.out.size))
  have BG11 := Lib.hid (BG10.out.next hb11)
  have BT11 := Lib.hid (BT10.out.next hb11)
  have KC := Lib.hid K11
  clear d10 BG10 BT10 hb11 LC g0 gl K11
  have hcn := Lib.hid (fun k => And.intro (cn_nn k u) (cn_le k u))
  go_wp2_with fail
  go_loopw [16, 17] (fun p_ k_ w' => ∃ k : Nat, k_ = .int .i64 k ∧ p_ = .int .i64 (prV u k 0 % M) ∧ k ≤ 4 ∧ Hid (Below w11.heap.size w11 w')) (fun _ k_ _ => 4 - (intOf k_).toNat)
  case atStart => exact ⟨0, rfl, by rw [prV_0]; simp, by omega, Lib.hid (Below.refl _ _)⟩
  case round =>
    obtain ⟨k, rfl, rfl, hk, hw1⟩ := hrel
    by_cases hk4 : k < 4
    · have k1 : (k : Int) < 4 := by omega
      have k0 : (0 : Int) ≤ (k : Int) := by omega
      go_wp2_with fail
      go_loopw [16, 18] (fun p_ l_ w' => ∃ j : Nat, l_ = .int .i64 j ∧ p_ = .int .i64 (prV u k j % M) ∧ j ≤ k ∧ Hid (Below w11.heap.size w11 w')) (fun _ l_ _ => k - (intOf l_).toNat)
      case atStart => exact ⟨0, rfl, rfl, by omega, hw1⟩
      case round =>
        obtain ⟨j, rfl, rfl, hj, hw2⟩ := hrel
        by_cases hjk : j < k
        · have j0 : (0 : Int) ≤ (j : Int) := by omega
          have j1 : (j : Int) < 4 := by omega
          have j2 : (j : Int) < (k : Int) := by omega
          have KK := KC.out.next hw2.out
          have KD := KK.next (Below.refl _ _).drew
          have ek := ct4_at u hk4
          have ej := ct4_at u (show j < 4 by omega)
          have ck : wr.drew.cell? ⟨b11, k, none⟩ = some (.int .i64 (cn k u)) := by rw [KD.cell k, intA_at _ hk4, ek]
          have cj : wr.drew.cell? ⟨b11, j, none⟩ = some (.int .i64 (cn j u)) := by rw [KD.cell j, intA_at _ (show j < 4 by omega), ej]
          have ck' : wr.cell? ⟨b11, k, none⟩ = some (.int .i64 (cn k u)) := by rw [KK.cell k, intA_at _ hk4, ek]
          have cj' : wr.cell? ⟨b11, j, none⟩ = some (.int .i64 (cn j u)) := by rw [KK.cell j, intA_at _ (show j < 4 by omega), ej]
          have hst := Lib.hid (prV_step u hk4 hjk M)
          obtain ⟨k2, k3⟩ := hcn.out k
          obtain ⟨j3, j4⟩ := hcn.out j
          generalize cn k u = ck_ at *
          generalize cn j u = cj_ at *
          have r0 := Int.emod_nonneg (prV u k j) (show M ≠ 0 by omega)
          have r1 := Int.emod_lt_of_pos (prV u k j) (show 0 < M by omega)
          have x0 := Int.emod_nonneg ck_ (show M ≠ 0 by omega)
          have x1 := Int.emod_lt_of_pos ck_ (show 0 < M by omega)
          have y0 := Int.emod_nonneg cj_ (show M ≠ 0 by omega)
          have y1 := Int.emod_lt_of_pos cj_ (show 0 < M by omega)
          have z0 := mul_b x0 (show ck_ % M ≤ 1000000000 by omega) y0 (show cj_ % M ≤ 1000000000 by omega)
          generalize prV u k j % M = pv at *
          clear KK KD ek ej
          have um1 : IntKind.i64.wrap (ck_ % M * (cj_ % M)) = ck_ % M * (cj_ % M) := IntWalk.i64_in _ (by omega)
          have um2 : IntKind.i64.wrap (pv + ck_ % M * (cj_ % M)) = pv + ck_ % M * (cj_ % M) := IntWalk.i64_in _ (by omega)
          have mne : ¬ (M = 0) := by omega
          go_wp2_with fail
          go_region
          all_goals
            rw [hst.out]
            go_wp2_with fail
            go_roundw
            case rel => exact ⟨j + 1, by go_num, rfl, by omega, Lib.hid (hw2.out.trans ((Below.refl _ _).drew.mono hw2.out.size))⟩
            case measure => simp [intOf]; omega
        · obtain rfl : j = k := by omega
          rw [prV_next u hk4]
          go_wp2_with fail
          go_roundw
          case rel => exact ⟨j + 1, by go_num, rfl, by omega, hw2⟩
          case measure => simp [intOf]; omega
    · obtain rfl : k = 4 := by omega
      have hc1 := Hpr.out
      generalize prV u 4 0 % M = pv at *
      have c12 := Lib.hid (d11.out.trans (hw1.out.mono d11.out.size))
      have BG12 := Lib.hid (BG11.out.next hw1.out)
      have BT12 := Lib.hid (BT11.out.next hw1.out)
      have K12 := Lib.hid (KC.out.next hw1.out)
      have g0 := BG12.out.cell 0
      have gl := BG12.out.lt
      have um : IntKind.i64.wrap (ai + ti) = ai + ti := IntWalk.i64_in _ (by omega)
      have mne : ¬ (M = 0) := by omega
      clear d11 BG11 BT11 KC hw1
      go_wp2_with fail
      refine (PV.out wr (e3.out _ c12.out)).mono ?_
      rintro e w13 ⟨rfl, hb13⟩
      have c13 := Lib.hid (c12.out.trans (hb13.mono c12.out.size))
      have BG13 := Lib.hid (BG12.out.next hb13)
      have BT13 := Lib.hid (BT12.out.next hb13)
      have K13 := Lib.hid (K12.out.next hb13)
      clear g0 gl c12 BG12 BT12 K12 hb13 um hc1
      have g0 := BT13.out.cell 0
      have gl := BT13.out.lt
      go_wp2_with fail
      refine (PT.out w13 c13.out).mono ?_
      rintro e w14 ⟨rfl, hb14⟩
      have c14 := Lib.hid (c13.out.trans (hb14.mono c13.out.size))
      have BG14 := Lib.hid (BG13.out.next hb14)
      have K14 := Lib.hid (K13.out.next hb14)
      clear g0 gl c13 BG13 BT13 K13 hb14
      have g0 := BG14.out.cell 0
      have gl := BG14.out.lt
      go_wp2_with fail
      refine (FL.out w14 (e3.out _ c14.out)).mono ?_
      rintro e w15 ⟨rfl, hb15⟩
      have c15 := Lib.hid (c14.out.trans (hb15.mono c14.out.size))
      have K15 := Lib.hid (K14.out.next hb15)
      clear g0 gl c14 BG14 K14 hb15
      have hcl := hcn.out l
      have hwl := Lib.hid Hpl.out
      by_cases hu0 : (u.length : Int) = 0
      · obtain ⟨rfl, rfl⟩ := Hpn.out hu0
        rw [hu0]
        go_wp2_with fail
        go_ret
        exact ⟨rfl, b3.out.trans ((e3.out _ c15.out).mono b3.out.size)⟩
      · have hu1 : ((u.length : Int) == 0) = false := by simpa using hu0
        have PH := Lib.hid (fun (A : Option Addr) (n c : Nat) (hs : List Fac) (W : World) (hn : n ≤ 1048576) (hr : Rd W W.heap.size A n 3 Fac.cells hs) (hok : ∀ f ∈ hs, f.l.size ≤ maxLen) (hg : (gOk hs).isSome = true) => by
          have h := implPlace_any A n c hs (lt1 l) M W hn hr hok (by show 1 ≤ maxLen; unfold maxLen; omega) (by omega)
          rw [placeV_word hg hl4 (by omega) (by omega)] at h
          exact h)
        have hsl := Lib.hid (fun (v : List Nat) (i : Nat) (hi : i < v.length) (hv : v.getD i 0 < 4) => show ((tx v).extract i (i + 1) = lt1 l ↔ v.getD i 0 = l) by rw [tx_slice v hi]; exact lt1_inj hv hl4)
        have hl0 : 0 < (lt1 l).size := by show 0 < 1; omega
        have hlv := lt1_at hl4 hl0
        have hl1 : (lt1 l).size = 1 := rfl
        generalize lt1 l = s at *
        have hp := Hpl.out
        have DC := K15.out.next (Below.refl w15.heap.size w15).drew
        have kc : w15.drew.cell? ⟨b11, l, none⟩ = some (.int .i64 (cn l u)) := by rw [DC.cell l, intA_at _ hl4, ct4_at u hl4]
        have kc' : w15.cell? ⟨b11, l, none⟩ = some (.int .i64 (cn l u)) := by rw [K15.out.cell l, intA_at _ hl4, ct4_at u hl4]
        obtain ⟨cl0, cl1⟩ := hcl
        generalize cn l u = cl at *
        have ul : IntKind.u8.wrap (((s[0]'hl0).toNat : Int) - 97) = (l : Int) := by rw [hlv, IntKind.wrap_u8]; omega
        have l0 : (0 : Int) ≤ (l : Int) := by omega
        have l1 : (l : Int) < 4 := by omega
        have um : IntKind.i64.wrap (ap + tp) = ap + tp := IntWalk.i64_in _ (by omega)
        have un : IntKind.i64.wrap ((u.length : Int) - 1) = (u.length : Int) - 1 := IntWalk.i64_in _ (by omega)
        have x0 := Int.emod_nonneg ((u.length : Int) - 1) (show M ≠ 0 by omega)
        have x1 := Int.emod_lt_of_pos ((u.length : Int) - 1) (show 0 < M by omega)
        have y0 := Int.emod_nonneg cl (show M ≠ 0 by omega)
        have y1 := Int.emod_lt_of_pos cl (show 0 < M by omega)
        have z0 := mul_b x0 (show ((u.length : Int) - 1) % M ≤ 1000000000 by omega) y0 (show cl % M ≤ 1000000000 by omega)
        have up : IntKind.i64.wrap (((u.length : Int) - 1) % M * (cl % M)) = ((u.length : Int) - 1) % M * (cl % M) := IntWalk.i64_in _ (by omega)
        have n1 : 0 ≤ (u.length : Int) - 1 := by omega
        obtain ⟨z1, z2⟩ := z0
        have up2 : wrap64 (((u.length : Int) - 1) % M * (cl % M)) = ((u.length : Int) - 1) % M * (cl % M) := IntWalk.wrap64_in _ (by omega)
        have uc : (97 : Int) + (l : Int) - 97 = (l : Int) := by omega
        clear K15 DC hwl
        go_wp2_with fail
        go_region
        all_goals
          go_wp2_with fail
          refine (p6Grammar_any D m d _ _ (by omega) (DS.out _ (e3.out _ (c15.out.trans ((Below.refl _ _).drew.mono c15.out.size))))).mono ?_
          rintro e w16 ⟨A6, c6, hs, rfl, ok6, own6, hb16⟩
          have b15 := b3.out.trans ((e3.out _ (c15.out.trans ((Below.refl _ _).drew.mono c15.out.size))).mono b3.out.size)
          have b16 := Lib.hid (b15.trans (hb16.mono b15.size))
          have R6 := Lib.hid (Rd.of_own (fun x _ => fac_len x) rfl own6)
          have Ok6 := Lib.hid ok6
          have h6 := ok6.few
          have h68 := ok6.len
          have Z6 := Lib.hid (wf_sz ok6.wf)
          obtain ⟨ls6, hls6⟩ := Option.isSome_iff_exists.1 ok6.gok
          have IH := Lib.hid (fun W (hb : Below w16.heap.size w16 W) => implInv_any A6 hs.length c6 hs M W (by omega) (R6.out.next hb) Z6.out (by omega))
          have PG := Lib.hid (fun W (hb : Below w16.heap.size w16 W) => PH.out A6 hs.length c6 hs W (by omega) (R6.out.next hb) Z6.out Ok6.out.gok)
          have UW := Lib.hid (fun W (hb : Below w16.heap.size w16 W) => unpackWord_any A6 hs.length c6 hs ls6 W (R6.out.next hb) Z6.out hls6 (by omega))
          rw [invV_word Ok6.out.gok (by omega) (by omega)] at IH
          unfold tup2 at IH PG
          have V4 := Lib.hid (wdN_let ok6.wf)
          clear ok6 own6 hb16 hls6 b15 PH PV PT Hpl hp kc kc' ul l0 l1 um un x0 x1 y0 y1 z1 z2 up up2 uc n1 e3 c15 hu0 hu1 cl0 cl1 Hpr Hpn hcn DS FL HU4 hlv a0 a1 t0 t1 p0 p1 q0 q1 hu R6 Ok6
          generalize wdN hs = v at *
          go_wp2_with fail
          refine namedC fun w17 H17 => ?_
          have c17 := Lib.hid (show Below w16.heap.size w16 w17 by rw [H17.out]; (repeat first | exact Below.refl _ _ | assumption | refine Below.drew ?_ | refine Below.alloc ?_ (by first | exact Nat.le_refl _ | (simp; done) | omega | (simp; omega)) _ | refine Below.setCell ?_ (by first | exact Nat.le_refl _ | (simp; done) | omega | (simp; omega)) _))
          have BG17 := Lib.hid (show Blk w17 w16.heap.size 26 #[.slice A6 hs.length c6] by rw [H17.out]; exact Blk.new _ _ _)
          clear H17
          refine (UW.out w17 c17.out).mono ?_
          rintro e w18 ⟨rfl, hb18⟩
          have c18 := Lib.hid (c17.out.trans (hb18.mono c17.out.size))
          have BG18 := Lib.hid (BG17.out.next hb18)
          clear c17 BG17 hb18 UW
          have Hs := Lib.hid (tx_at v V4.out)
          have hsz := tx_size v
          have HSL := Lib.hid (fun i (hi : i < v.length) => hsl.out v i hi (by rw [List.getD_eq_getElem?_getD, List.getElem?_eq_getElem hi]; exact V4.out _ (List.getElem_mem hi)))
          generalize tx v = x at *
          have HX := Lib.hid hsz
          have hx8 : x.size ≤ 8 := by omega
          clear hsz hsl
          go_wp2_with fail
          go_loopw [27, 28, 29] (fun s_ p_ i_ w' => ∃ i : Nat, i_ = .int .i64 i ∧ s_ = .int .i64 (ivN (v.take i) % M) ∧ p_ = .int .i64 (plN l (v.take i) % M) ∧ i ≤ x.size ∧ Hid (Below w18.heap.size w18 w')) (fun _ _ i_ _ => x.size - (intOf i_).toNat)
          case atStart => exact ⟨0, rfl, by simp [ivN], by simp [plN], by omega, Lib.hid (Below.refl _ _)⟩
          case round =>
            obtain ⟨i, rfl, rfl, rfl, hi, hw1⟩ := hrel
            by_cases hlt : i < x.size
            · have hil : i < v.length := by rw [← HX.out]; exact hlt
              have i0 : (0 : Int) ≤ (i : Int) := by omega
              have i1 : (i : Int) < (x.size : Int) := by omega
              have i2 : (i : Int) + 1 ≤ (x.size : Int) := by omega
              have ui : IntKind.i64.wrap ((i : Int) + 1) = ((i + 1 : Nat) : Int) := by rw [IntWalk.i64_in _ (by omega)]; omega
              have hq : ((x.extract i (i + 1)).toList == s.toList) = decide (v.getD i 0 = l) := by rw [tl_beq]; exact decide_eq_decide.2 (HSL.out i hil)
              have hpt := plN_take l hil
              have hit := Lib.hid (ivN_take hil)
              obtain ⟨hbi, hv4⟩ := Hs.out i hlt
              generalize hvi : v.getD i 0 = vi at *
              have Pn := Lib.hid (show plN l (v.take (i + 1)) % M = if vi = l then (plN l (v.take i) % M + (i : Int)) % M else plN l (v.take i) % M by
                rw [hpt]
                split
                · rw [Int.emod_add_emod]
                · rw [Int.add_zero])
              have pp0 := Int.emod_nonneg (plN l (v.take i)) (show M ≠ 0 by omega)
              have pp1 := Int.emod_lt_of_pos (plN l (v.take i)) (show 0 < M by omega)
              generalize hpo : plN l (v.take i) % M = po at *
              generalize hpw : plN l (v.take (i + 1)) % M = pw at *
              have up : IntKind.i64.wrap (po + (i : Int)) = po + (i : Int) := IntWalk.i64_in _ (by omega)
              have inner : ∀ (pz : Int), pz = pw → True := fun _ _ => trivial
              by_cases hvl : vi = l
              · have hq1 := decide_eq_true hvl
                rw [hq1] at hq
                have Pe := Pn.out
                rw [if_pos hvl] at Pe
                have PeH := Lib.hid Pe
                clear hpt Pn Pe hq1 inner
                go_wp2_with fail
                go_loopw [27, 30] (fun s_ k_ w' => ∃ k : Nat, k_ = .int .i64 k ∧ s_ = .int .i64 ((ivN (v.take i) + gtC vi (v.take k)) % M) ∧ k ≤ i ∧ Hid (Below w18.heap.size w18 w')) (fun _ k_ _ => i - (intOf k_).toNat)
                case atStart => exact ⟨0, rfl, by rw [show gtC vi (v.take 0) = 0 from rfl, Int.add_zero], by omega, hw1⟩
                case round =>
                  obtain ⟨k, rfl, rfl, hk, hw2⟩ := hrel
                  by_cases hki : k < i
                  · have hkl : k < v.length := by omega
                    have k0 : (0 : Int) ≤ (k : Int) := by omega
                    have k1 : (k : Int) < (x.size : Int) := by omega
                    have k2 : (k : Int) < (i : Int) := by omega
                    have hks : k < x.size := by omega
                    obtain ⟨hbk, hvk4⟩ := Hs.out k hks
                    have hgt := gtC_take vi hkl
                    have ss0 := Int.emod_nonneg (ivN (v.take i) + gtC vi (v.take k)) (show M ≠ 0 by omega)
                    have ss1 := Int.emod_lt_of_pos (ivN (v.take i) + gtC vi (v.take k)) (show 0 < M by omega)
                    generalize v.getD k 0 = vk at *
                    have Se := Lib.hid (show (ivN (v.take i) + gtC vi (v.take (k + 1))) % M = if vi < vk then ((ivN (v.take i) + gtC vi (v.take k)) % M + 1) % M else (ivN (v.take i) + gtC vi (v.take k)) % M by
                      rw [hgt]
                      split
                      · rw [Int.emod_add_emod, Int.add_assoc]
                      · rw [Int.add_zero])
                    clear hgt
                    generalize (ivN (v.take i) + gtC vi (v.take k)) % M = so at *
                    have us : IntKind.i64.wrap (so + 1) = so + 1 := IntWalk.i64_in _ (by omega)
                    by_cases hlt3 : vi < vk
                    · have S2 := Se.out
                      rw [if_pos hlt3] at S2
                      have S3 := Lib.hid S2
                      have hz : (97 : Int) + (vi : Int) < 97 + (vk : Int) := by omega
                      clear Se S2
                      go_wp2_with fail
                      go_region
                      all_goals
                        go_wp2_with fail
                        go_roundw
                        case rel => exact ⟨k + 1, by go_num, by rw [S3.out], by omega, Lib.hid (hw2.out.trans ((Below.refl _ _).drew.mono hw2.out.size))⟩
                        case measure => simp [intOf]; omega
                    · have S2 := Se.out
                      rw [if_neg hlt3] at S2
                      have S3 := Lib.hid S2
                      have hz : ¬ (97 : Int) + (vi : Int) < 97 + (vk : Int) := by omega
                      clear Se S2
                      go_wp2_with fail
                      go_region
                      all_goals
                        go_wp2_with fail
                        go_roundw
                        case rel => exact ⟨k + 1, by go_num, by rw [S3.out], by omega, Lib.hid (hw2.out.trans ((Below.refl _ _).drew.mono hw2.out.size))⟩
                        case measure => simp [intOf]; omega
                  · obtain rfl : k = i := by omega
                    rw [← hit.out]
                    go_wp2_with fail
                    go_roundw
                    case rel => exact ⟨k + 1, by go_num, rfl, by rw [hpw, PeH.out], by omega, hw2⟩
                    case measure => simp [intOf]; omega
              · have hq1 := decide_eq_false hvl
                rw [hq1] at hq
                have Pe := Pn.out
                rw [if_neg hvl] at Pe
                have PeH := Lib.hid Pe
                clear hpt Pn Pe hq1 inner
                go_wp2_with fail
                go_loopw [27, 30] (fun s_ k_ w' => ∃ k : Nat, k_ = .int .i64 k ∧ s_ = .int .i64 ((ivN (v.take i) + gtC vi (v.take k)) % M) ∧ k ≤ i ∧ Hid (Below w18.heap.size w18 w')) (fun _ k_ _ => i - (intOf k_).toNat)
                case atStart => exact ⟨0, rfl, by rw [show gtC vi (v.take 0) = 0 from rfl, Int.add_zero], by omega, hw1⟩
                case round =>
                  obtain ⟨k, rfl, rfl, hk, hw2⟩ := hrel
                  by_cases hki : k < i
                  · have hkl : k < v.length := by omega
                    have k0 : (0 : Int) ≤ (k : Int) := by omega
                    have k1 : (k : Int) < (x.size : Int) := by omega
                    have k2 : (k : Int) < (i : Int) := by omega
                    have hks : k < x.size := by omega
                    obtain ⟨hbk, hvk4⟩ := Hs.out k hks
                    have hgt := gtC_take vi hkl
                    have ss0 := Int.emod_nonneg (ivN (v.take i) + gtC vi (v.take k)) (show M ≠ 0 by omega)
                    have ss1 := Int.emod_lt_of_pos (ivN (v.take i) + gtC vi (v.take k)) (show 0 < M by omega)
                    generalize v.getD k 0 = vk at *
                    have Se := Lib.hid (show (ivN (v.take i) + gtC vi (v.take (k + 1))) % M = if vi < vk then ((ivN (v.take i) + gtC vi (v.take k)) % M + 1) % M else (ivN (v.take i) + gtC vi (v.take k)) % M by
                      rw [hgt]
                      split
                      · rw [Int.emod_add_emod, Int.add_assoc]
                      · rw [Int.add_zero])
                    clear hgt
                    generalize (ivN (v.take i) + gtC vi (v.take k)) % M = so at *
                    have us : IntKind.i64.wrap (so + 1) = so + 1 := IntWalk.i64_in _ (by omega)
                    by_cases hlt3 : vi < vk
                    · have S2 := Se.out
                      rw [if_pos hlt3] at S2
                      have S3 := Lib.hid S2
                      have hz : (97 : Int) + (vi : Int) < 97 + (vk : Int) := by omega
                      clear Se S2
                      go_wp2_with fail
                      go_region
                      all_goals
                        go_wp2_with fail
                        go_roundw
                        case rel => exact ⟨k + 1, by go_num, by rw [S3.out], by omega, Lib.hid (hw2.out.trans ((Below.refl _ _).drew.mono hw2.out.size))⟩
                        case measure => simp [intOf]; omega
                    · have S2 := Se.out
                      rw [if_neg hlt3] at S2
                      have S3 := Lib.hid S2
                      have hz : ¬ (97 : Int) + (vi : Int) < 97 + (vk : Int) := by omega
                      clear Se S2
                      go_wp2_with fail
                      go_region
                      all_goals
                        go_wp2_with fail
                        go_roundw
                        case rel => exact ⟨k + 1, by go_num, by rw [S3.out], by omega, Lib.hid (hw2.out.trans ((Below.refl _ _).drew.mono hw2.out.size))⟩
                        case measure => simp [intOf]; omega
                  · obtain rfl : k = i := by omega
                    rw [← hit.out]
                    go_wp2_with fail
                    go_roundw
                    case rel => exact ⟨k + 1, by go_num, rfl, by rw [hpw, PeH.out], by omega, hw2⟩
                    case measure => simp [intOf]; omega
            · obtain rfl : i = x.size := by omega
              have et : v.take x.size = v := List.take_of_length_le (by rw [HX.out]; omega)
              rw [et]
              have c19 := Lib.hid (c18.out.trans (hw1.out.mono c18.out.size))
              have BG19 := Lib.hid (BG18.out.next hw1.out)
              have g0 := BG19.out.cell 0
              have gl := BG19.out.lt
              generalize ivN v % M = iv at *
              generalize plN l v % M = pl at *
              clear et c18 BG18 hw1
              go_wp2_with fail
              refine (IH.out _ c19.out).mono ?_
              rintro e w20 ⟨rfl, hb20⟩
              have c20 := Lib.hid (c19.out.trans (hb20.mono c19.out.size))
              have BG20 := Lib.hid (BG19.out.next hb20)
              clear g0 gl c19 BG19 hb20
              have g0 := BG20.out.cell 0
              have gl := BG20.out.lt
              go_wp2_with fail
              refine (PG.out _ c20.out).mono ?_
              rintro e w21 ⟨rfl, hb21⟩
              have c21 := Lib.hid (c20.out.trans (hb21.mono c20.out.size))
              clear g0 gl c20 BG20 hb21
              go_wp2_with fail
              go_ret
              exact ⟨rfl, b16.out.trans (c21.out.mono b16.out.size)⟩
set_option maxRecDepth 100000 in
theorem fnInversions_contract (H : Type) (enc : TypeId × Value → H) (W : World) (base : Nat) (args : Array Value) (ds gs : List (DataW H)) (before : List MemPlace)
    (hval : ∀ (j : Nat) t v, Try.f4.params[j]? = some t → args[j]? = some v → Value.okWide Try.prog W .any base t v)
    (hW : DataW.Whole enc Try.prog Try.f4.params.toList Rows.fnInversionsSpec.vars false W args.toList ds gs before) :
    Calls Try.prog 4 args W fun e W' => ∃ v, e = .returned v ∧ Rows.fnInversionsSpec.post enc Try.prog Try.f4 false true false false W args v W' := by
  have hW' := hW
  obtain ⟨p, q, hA0, hV, rfl, hfz, hnd⟩ := hW
  have hA : DataW.TrodAll enc Try.prog W 0 (fun _ => true) true Try.f4.params.toList args.toList ds p := hA0
  rw [Try.params4] at hA hval
  obtain ⟨v0, vs0, d0, ds0, p0, q0, hargs, rfl, rfl, h0, r0⟩ := trodAll_cons hA
  obtain ⟨v1, vs1, d1, ds1, p1, q1, rfl, rfl, rfl, h1, r1⟩ := trodAll_cons r0
  obtain ⟨rfl, rfl, rfl⟩ := trodAll_nil r1
  obtain rfl : args = #[v0, v1] := by cases args; simp_all
  obtain ⟨rfl, rfl⟩ := trodVars_none hV
  obtain ⟨A0, n0, c0, zs0, rfl, hn0, rd0, ok0⟩ := open_bytes Try.underlying22 Try.underlying5 (by kernel_rfl) (hval 0 22 v0 rfl rfl) h0
  obtain ⟨A1, n1, c1, zs1, rfl, hn1, rd1, ok1⟩ := open_bytes Try.underlying22 Try.underlying5 (by kernel_rfl) (hval 1 22 v1 rfl rfl) h1
  clear hA0
  refine (walkInv A0 n0 c0 zs0 A1 n1 c1 zs1 W hn0 rd0 ok0 hn1 rd1 ok1).mono fun e W' ⟨he, hb⟩ => ?_
  subst he
  exact ⟨_, rfl, law_post laidOut hW' rfl 4 Try.underlying4 (by kernel_rfl) (by rw [Try.params4]; intro t ht; simp at ht; first | (subst ht; exact ⟨by kernel_rfl, of_decide_eq_true (by kernel_rfl)⟩) | (rcases ht with rfl | rfl <;> exact ⟨by kernel_rfl, of_decide_eq_true (by kernel_rfl)⟩) | (rcases ht with rfl | rfl | rfl <;> exact ⟨by kernel_rfl, of_decide_eq_true (by kernel_rfl)⟩) | (rcases ht with rfl | rfl | rfl | rfl <;> exact ⟨by kernel_rfl, of_decide_eq_true (by kernel_rfl)⟩)) rfl hb⟩

set_option maxRecDepth 100000 in
theorem fnInversions_lifted (os : Os) (started : os.Started) (H : Type) (enc : TypeId × Value → H) :
    ReturnsInHanded {} Try.checked os 4 .any (Rows.fnInversionsSpec.pre6 enc Try.prog Try.f4 Rows.fnInversionsRow.domain false) (Rows.fnInversionsSpec.post enc Try.prog Try.f4 false true false false) := by
  refine returnsInHanded_of_change (C := Try.checked) own started (by kernel_rfl) Try.func4
    (ChangeSpec.witness6 (enc := enc) (C := Try.checked) false ⟨#[], #[.slice none 0 0, .slice none 0 0], []⟩ 8 (by kernel_rfl) (by kernel_rfl) (by kernel_rfl) (by kernel_rfl)) ?_
  intro W base args ds gs before hval0 hW hcnd _
  exact fnInversions_contract H enc W base args ds gs before hval0 hW

theorem fnInversions_holds : Rows.FnInversionsSaid :=
  OpenClaim.holds_of_wide 4 Try.f4 rfl rfl rfl rfl rfl rfl rfl ⟨rfl, rfl, rfl, rfl, rfl⟩ rfl rfl rfl rfl rfl (by as_aux_lemma => kernel_rfl) Try.func4
    (joined_mk (by as_aux_lemma => kernel_rfl) laidOut mapsRowed' (by as_aux_lemma => kernel_rfl) (by as_aux_lemma => kernel_rfl) (by as_aux_lemma => kernel_rfl) (by as_aux_lemma => kernel_rfl) (by as_aux_lemma => kernel_rfl) (by as_aux_lemma => kernel_rfl) plainKeys' rfl heard' mayEnter' lifts' make' (by as_aux_lemma => kernel_rfl))
    (of_decide_eq_true (by kernel_rfl)) (by unfold Func.isWrapper; first | (rw [if_pos (by decide +kernel)]; kernel_rfl) | (rw [if_neg (by decide +kernel)]; exact ⟨rfl, rfl⟩))
    (fun os started H enc _ => fnInversions_lifted os started H enc)

end Go.Proofs.Ytecnkmndmnefdaa
